/-
  The reference of layer 8: all times, closed edges, the changes between two ticks.
-/
import Derived.Test.YtegifbmcapnkdaaDoorRefH
namespace Go.Proofs.YtegifbmcapnkdaaDoor
open Go.RowKit Go.Maps

theorem allE_take {E : List EdgeT} {L : List ChgT} {t : Int} {k : Nat} (h : k < E.length) : (allE E L t).take (k + 1) = (allE E L t).take k ++ [atE E L (k : Nat) t] := by
  have h1 := allE_at h L t
  obtain ⟨h2, h3⟩ := List.getElem?_eq_some_iff.1 h1
  rw [List.take_succ_eq_append_getElem h2, h3]

section
variable {w : World} {E : List EdgeT} {L : List ChgT} {FA LA : Option Addr} {lc : Nat}
/-- what the reference's Times returns. -/
def RetTimes (w : World) (E : List EdgeT) (L : List ChgT) (t : Int) (e : Ending) (w' : World) : Prop := ∃ v, e = .returned v ∧ OwnI w' w.heap.size 2 v (allE E L t) ∧ Below w.heap.size w w'
set_option maxHeartbeats 2000000 in
theorem times_any (h : RoadsAt w E L FA LA lc) (fc : Nat) (hl : L.length ≤ 100000) (hE : E.length ≤ 16384) (t : Int) :
    Calls Tryd.prog 19 #[.agg #[.slice FA E.length fc, .slice LA L.length lc], .int .i64 t] w (RetTimes w E L t) := by
  obtain ⟨W, hW⟩ : ∃ W, W = w.alloc (.cells #[.slice FA E.length fc, .slice LA L.length lc] 30) := ⟨_, rfl⟩
  have HB0 := Lib.hid (show Below w.heap.size w W from by rw [hW]; exact (Below.refl w.heap.size w).alloc (Nat.le_refl _) _)
  have r0 : W.cell? ⟨w.heap.size, 0, none⟩ = some (.slice FA E.length fc) := by rw [hW, World.cell?_alloc_at (hn := rfl)]; rfl
  have r1 : W.cell? ⟨w.heap.size, 0 + 1, none⟩ = some (.slice LA L.length lc) := by rw [hW, World.cell?_alloc_at (hn := rfl)]; rfl
  have hz : w.heap.size < W.heap.size := by rw [hW]; simp
  have HR := Lib.hid (And.intro r0 r1)
  have HH := Lib.hid h
  obtain ⟨m, hm⟩ : ∃ m, m = E.length := ⟨_, rfl⟩
  have HM := Lib.hid hm
  have HW := Lib.hid hW
  clear h hW hm r1 r0
  go_enter Tryd.func19, Tryd.ntmps19
  go_wp2_with fail
  rw [← HW.out]
  go_loopw [5, 6, 10] (fun v _ iv wr => ∃ k : Nat, k ≤ m ∧ iv = .int .i64 k ∧ OwnI wr W.heap.size 2 v ((allE E L t).take k) ∧ Below W.heap.size W wr) (fun _ _ i _ => m - (intOf i).toNat)
  case atStart => exact ⟨0, Nat.zero_le _, rfl, OwnV.nil _ _ _, Below.refl _ _⟩
  case round =>
    obtain ⟨k, hk, rfl, hown, hb⟩ := hrel
    have HOW := Lib.hid hown
    have HBR := Lib.hid hb
    have HB := Lib.hid (HB0.out.trans (hb.mono (Nat.le_of_lt hz)))
    by_cases hlt : k < m
    · have r0 : wr.cell? ⟨w.heap.size, 0, none⟩ = some (.slice FA E.length fc) := (hb.cell (p := ⟨w.heap.size, 0, none⟩) hz).trans HR.out.1
      have r1 : wr.cell? ⟨w.heap.size, 0 + 1, none⟩ = some (.slice LA L.length lc) := (hb.cell (p := ⟨w.heap.size, 0 + 1, none⟩) hz).trans HR.out.2
      have hdl : decide (k < E.length) = true := by have := HM.out; simp; omega
      have HS := Lib.hid (allE_take (E := E) (L := L) (t := t) (k := k) (by have := HM.out; omega))
      clear hown hb
      go_wp2_with fail
      refine (rat_any wr (HH.out.below HB.out) fc hl (k : Int) t).mono ?_
      rintro e w1 ⟨rfl, hb1⟩
      have HOW1 := Lib.hid (HOW.out.kept_new hb1)
      have HB1 := Lib.hid (HBR.out.trans (hb1.mono HBR.out.size))
      have hlk : ((allE E L t).take k).length ≤ k := List.length_take_le _ _
      have hmE : m ≤ E.length := by have := HM.out; omega
      clear hb1
      go_wp2_with (at_builtin; refine wpList_append_int _ rfl _ _ 22 rfl W.heap.size 2 Tryd.underlying22 i64_info _ ((allE E L t).take k) w1 (atE E L (k : Int) t) rfl rfl HOW1.out rfl (by omega) HB1.out.size ?_; intro v' w' hown' hgrow')
      go_roundw
      case rel =>
        refine ⟨k + 1, by omega, by go_num, ?_, HB1.out.grown hgrow' HB1.out.size (fun j e => HOW1.out.ge_base j e)⟩
        rw [HS.out]
        exact hown'
      case measure => simp [intOf]; omega
    · have hkk : k = m := by omega
      subst hkk
      have hdl : decide (k < E.length) = false := by have := HM.out; simp; omega
      clear hown hb
      go_wp2_with fail
      go_ret
      refine ⟨_, rfl, ?_, HB.out⟩
      have h1 := HOW.out
      rw [HM.out, List.take_of_length_le (by rw [allE_len]; exact Nat.le_refl _)] at h1
      exact h1.base_le (Nat.le_of_lt hz)

/-- what the reference's Closed returns. -/
def RetShut (w : World) (E : List EdgeT) (L : List ChgT) (t : Int) (e : Ending) (w' : World) : Prop := ∃ v, e = .returned v ∧ OwnI w' w.heap.size 3 v (closedE E L t E.length) ∧ Below w.heap.size w w'
set_option maxHeartbeats 2000000 in
theorem shut_any (h : RoadsAt w E L FA LA lc) (fc : Nat) (hl : L.length ≤ 100000) (hE : E.length ≤ 16384) (t : Int) :
    Calls Tryd.prog 21 #[.agg #[.slice FA E.length fc, .slice LA L.length lc], .int .i64 t] w (RetShut w E L t) := by
  obtain ⟨W, hW⟩ : ∃ W, W = w.alloc (.cells #[.slice FA E.length fc, .slice LA L.length lc] 30) := ⟨_, rfl⟩
  have HB0 := Lib.hid (show Below w.heap.size w W from by rw [hW]; exact (Below.refl w.heap.size w).alloc (Nat.le_refl _) _)
  have r0 : W.cell? ⟨w.heap.size, 0, none⟩ = some (.slice FA E.length fc) := by rw [hW, World.cell?_alloc_at (hn := rfl)]; rfl
  have r1 : W.cell? ⟨w.heap.size, 0 + 1, none⟩ = some (.slice LA L.length lc) := by rw [hW, World.cell?_alloc_at (hn := rfl)]; rfl
  have hz : w.heap.size < W.heap.size := by rw [hW]; simp
  have HR := Lib.hid (And.intro r0 r1)
  have HH := Lib.hid h
  obtain ⟨m, hm⟩ : ∃ m, m = E.length := ⟨_, rfl⟩
  have HM := Lib.hid hm
  have HW := Lib.hid hW
  clear h hW hm r1 r0
  go_enter Tryd.func21, Tryd.ntmps21
  go_wp2_with fail
  rw [← HW.out]
  go_loopw [5, 6, 10] (fun v _ iv wr => ∃ k : Nat, k ≤ m ∧ iv = .int .i64 k ∧ OwnI wr W.heap.size 3 v (closedE E L t k) ∧ Below W.heap.size W wr) (fun _ _ i _ => m - (intOf i).toNat)
  case atStart => exact ⟨0, Nat.zero_le _, rfl, OwnV.nil _ _ _, Below.refl _ _⟩
  case round =>
    obtain ⟨k, hk, rfl, hown, hb⟩ := hrel
    have HOW := Lib.hid hown
    have HBR := Lib.hid hb
    have HB := Lib.hid (HB0.out.trans (hb.mono (Nat.le_of_lt hz)))
    by_cases hlt : k < m
    · have r0 : wr.cell? ⟨w.heap.size, 0, none⟩ = some (.slice FA E.length fc) := (hb.cell (p := ⟨w.heap.size, 0, none⟩) hz).trans HR.out.1
      have r1 : wr.cell? ⟨w.heap.size, 0 + 1, none⟩ = some (.slice LA L.length lc) := (hb.cell (p := ⟨w.heap.size, 0 + 1, none⟩) hz).trans HR.out.2
      have hdl : decide (k < E.length) = true := by have := HM.out; simp; omega
      have hcl := closedE_len E L t k
      have hmE : m ≤ E.length := by have := HM.out; omega
      clear hown hb
      go_wp2_with fail
      refine (rat_any wr (HH.out.below HB.out) fc hl (k : Int) t).mono ?_
      rintro e w1 ⟨rfl, hb1⟩
      have HOW1 := Lib.hid (HOW.out.kept_new hb1)
      have HB1 := Lib.hid (HBR.out.trans (hb1.mono HBR.out.size))
      clear hb1
      by_cases hq : atE E L (k : Int) t = 4611686018427387904
      · have HS := Lib.hid (show closedE E L t (k + 1) = closedE E L t k ++ [(k : Int)] by rw [closedE_succ, if_pos hq])
        rw [hq]
        clear hq
        go_wp2_with (at_builtin; refine wpList_append_int _ rfl _ _ 53 rfl W.heap.size 3 Tryd.underlying53 int_info35 _ (closedE E L t k) w1 (k : Int) rfl rfl HOW1.out rfl (by omega) HB1.out.size ?_; intro v' w' hown' hgrow')
        go_roundw
        case rel =>
          refine ⟨k + 1, by omega, by go_num, ?_, HB1.out.grown hgrow' HB1.out.size (fun j e => HOW1.out.ge_base j e)⟩
          rw [HS.out]
          exact hown'
        case measure => simp [intOf]; omega
      · have HS := Lib.hid (show closedE E L t (k + 1) = closedE E L t k by rw [closedE_succ, if_neg hq, List.append_nil])
        have dq : (atE E L (k : Int) t == 4611686018427387904) = false := by simpa using hq
        clear hq
        go_wp2_with fail
        go_roundw
        case rel => exact ⟨k + 1, by omega, by go_num, by rw [HS.out]; exact HOW1.out, HB1.out⟩
        case measure => simp [intOf]; omega
    · have hkk : k = m := by omega
      subst hkk
      have hdl : decide (k < E.length) = false := by have := HM.out; simp; omega
      clear hown hb
      go_wp2_with fail
      go_ret
      refine ⟨_, rfl, ?_, HB.out⟩
      have h1 := HOW.out
      rw [HM.out] at h1
      exact h1.base_le (Nat.le_of_lt hz)
end
end Go.Proofs.YtegifbmcapnkdaaDoor
