/-
  The iterator of Changes under the two functions that samaritanlaw08 hands to it; list.
-/
import Derived.Test.YtppbmnlneoinhaaDoorChgIt
namespace Go.Proofs.YtppbmnlneoinhaaDoor
open Go.RowKit Go.Maps

set_option maxRecDepth 100000 in
set_option maxHeartbeats 1000000 in
theorem it_list (S : List ChgT) (A' : Option Addr) (lb : Nat) (ob : Nat) (I : Nat → World → Prop) (w : World) (h0 : I 0 w) (hlb : w.cell? ⟨lb, 0, none⟩ = some (.slice A' S.length S.length)) (hlen : S.length ≤ 100000)
    (hS : ∀ k X, I k X → ChgsAt X X.heap.size A' S)
    (hstep : ∀ k c X, S[k]? = some c → I k X → Calls Tryd.prog 30 #[.agg #[.int .i64 c.tick, .int .i64 c.edge, .int .i64 c.time], .pointer (some ⟨ob, 0, none⟩)] (X.alloc (.cells #[.int .i64 c.tick, .int .i64 c.edge, .int .i64 c.time] 57)) fun e X' => e = .returned (.bool true) ∧ I (k + 1) X') :
    Calls Tryd.prog 47 #[.func (.func 30) #[] #[.pointer (some ⟨ob, 0, none⟩)], .pointer (some ⟨lb, 0, none⟩)] w fun e w' => e = .returned (.tuple #[]) ∧ I S.length w' := by
  have HS := Lib.hid hS
  have HST := Lib.hid hstep
  have H0 := Lib.hid h0
  obtain ⟨m, hm⟩ : ∃ m, m = S.length := ⟨_, rfl⟩
  have HM := Lib.hid hm
  rw [← hm] at hlb hlen ⊢
  clear hS hstep h0 hm
  go_enter Tryd.func47, Tryd.ntmps47
  go_wp2_with fail
  go_loopw [4, 7] (fun _ iv wr => ∃ k : Nat, k ≤ m ∧ iv = .int .i64 k ∧ I k wr) (fun _ i _ => m - (intOf i).toNat)
  case atStart => exact ⟨0, Nat.zero_le _, rfl, H0.out⟩
  case round =>
    obtain ⟨k, hk, rfl, hI⟩ := hrel
    have HI := Lib.hid hI
    by_cases hlt : k < m
    · obtain ⟨d, hd⟩ : ∃ d, S[k]? = some d := ⟨S[k]'(by have := HM.out; omega), by simp⟩
      obtain ⟨b', o', rfl, _, p0, p1, p2⟩ := chg_at (HS.out k wr hI) hd
      have HD := Lib.hid hd
      clear hI hd
      go_wp2_with fail
      refine (HST.out k d wr HD.out HI.out).mono ?_
      rintro e w1 ⟨rfl, hI1⟩
      have HI1 := Lib.hid hI1
      clear hI1
      go_wp2_with fail
      go_roundw
      case rel => exact ⟨k + 1, by omega, by go_num, HI1.out⟩
      case measure => simp [intOf]; omega
    · have hkk : k = m := by omega
      subst hkk
      clear hI
      go_wp2_with fail
      go_end0
      exact ⟨rfl, HI.out⟩

/-- the list that is collected at ob: zs, its row from base on; else nothing of W has changed. -/
structure OutAt (W : World) (ob : Nat) (zs : List ChgT) (X : World) : Prop where
  out : ∃ v, X.cell? ⟨ob, 0, none⟩ = some v ∧ OwnC X W.heap.size 57 v zs
  froz : X.frozen? ⟨ob, 0, none⟩ = false
  lt : ob < W.heap.size
  only : Only (fun b => b = ob) W X
set_option maxHeartbeats 1000000 in
theorem list1_any (W : World) (ob : Nat) (zs : List ChgT) (c : ChgT) (X : World) (h : OutAt W ob zs X) (hl : zs.length ≤ 9000) :
    Calls Tryd.prog 30 #[.agg #[.int .i64 c.tick, .int .i64 c.edge, .int .i64 c.time], .pointer (some ⟨ob, 0, none⟩)] X fun e X' => e = .returned (.bool true) ∧ OutAt W ob (zs ++ [c]) X' := by
  obtain ⟨v, hv, hown⟩ := h.out
  obtain ⟨W1, hW1⟩ : ∃ W1, W1 = X.alloc (.cells #[.int .i64 c.tick, .int .i64 c.edge, .int .i64 c.time] 57) := ⟨_, rfl⟩
  have hz : ob < X.heap.size := Nat.lt_of_lt_of_le h.lt h.only.size
  have hne : ¬ ob = X.heap.size := by omega
  have hfz := h.froz
  have HH := Lib.hid h
  have HOW := Lib.hid (OwnR.alloc hown (.cells #[.int .i64 c.tick, .int .i64 c.edge, .int .i64 c.time] 57))
  have HBX := Lib.hid ((Below.refl X.heap.size X).alloc (Nat.le_refl _) (.cells #[.int .i64 c.tick, .int .i64 c.edge, .int .i64 c.time] 57))
  have hWz := h.only.size
  have HNB := Lib.hid (show ∀ k, v.ownBlock = some k → W.heap.size ≤ k from fun k hk => OwnR.ge_base hown k hk)
  have hnob : v.ownBlock ≠ some ob := fun q => by have := HNB.out ob q; have := HH.out.lt; omega
  have HNO := Lib.hid hnob
  clear h hown hW1 hnob
  obtain ⟨tick, edge, time⟩ := c
  go_enter Tryd.func30, Tryd.ntmps30
  go_wp2_with (at_builtin; refine wpList_append_rec (cs := cellsC) (s := 3) _ rfl _ _ 23 rfl W.heap.size 57 Tryd.underlying23 chg_info rfl (by decide) (by decide) cellsC_len _ zs (X.alloc (.cells #[.int .i64 tick, .int .i64 edge, .int .i64 time] 57)) ⟨tick, edge, time⟩ (cellsC_one _) _ rfl rfl rfl HOW.out _ rfl (by simp) (by omega) (by simp; omega) ?_; intro v' w' hown' hgrow'; have HGR := Lib.hid hgrow'; have HON := Lib.hid hown'; obtain ⟨A6, c6, rfl, hsl6⟩ := OwnR.sl hown'; have x0 : w'.cell? ⟨ob, 0, none⟩ = some v := (grown_cell hgrow' (a := ⟨ob, 0, none⟩) (by simp; omega) HNO.out).trans ((HBX.out.cell (p := ⟨ob, 0, none⟩) hz).trans hv); have x1 : w'.frozen? ⟨ob, 0, none⟩ = false := (hgrow'.frozen_far ⟨ob, 0, none⟩ (by simp; omega) (fun q => HNO.out q.symm)).trans ((HBX.out.frozen (p := ⟨ob, 0, none⟩) hz).trans hfz); clear hgrow' hown' hsl6)
  go_ret
  refine ⟨ret_bool (by simp; omega), ⟨⟨.slice A6 (zs ++ [ChgT.mk tick edge time]).length c6, ?_, ?_⟩, ?_, HH.out.lt, ?_⟩⟩
  · have := World.cell?_setCell_same' w' ⟨ob, 0, none⟩ (.slice A6 (zs ++ [ChgT.mk tick edge time]).length c6) (by rw [x0]; rfl)
    simpa using this
  · refine OwnR.setCell_other HON.out ?_ _
    intro q
    have h1 := OwnR.ge_base HON.out _ q
    have h2 : ob < W.heap.size := HH.out.lt
    have h3 : W.heap.size ≤ ob := h1
    omega
  · rw [World.frozen?_setCell]
    exact x1
  · have h1 : Only (fun b => b = ob) W X := HH.out.only
    have h2 : Only (fun b => b = ob) W (X.alloc (.cells #[.int .i64 tick, .int .i64 edge, .int .i64 time] 57)) := h1.trans (Only.of_below (S := fun b => b = ob) HBX.out) (fun _ _ q => q)
    have h3 : Only (fun b => b = ob) W w' := h2.trans (Only.of_grown (S := fun b => v.ownBlock = some b) HGR.out (fun j hj => hj)) (fun j hj q => by have := HNB.out j q; omega)
    exact h3.setCell (a := ⟨ob, 0, none⟩) (fun _ => rfl) _

/-- what list returns. -/
def RetList (w : World) (S : List ChgT) (e : Ending) (w' : World) : Prop := ∃ v, e = .returned v ∧ OwnC w' w.heap.size 57 v S ∧ Below w.heap.size w w'
section
variable {w : World} {B gp n : Nat} {E : List EdgeT} {p cb : Nat} {F : Option Nat → Value} {L : List ChgT}
theorem tab_cells (h : TabAt w B gp n E p cb F L) : (∀ g j u, (F none).ownBlock = some g → (L.flatMap cellsC)[j]? = some u → w.cell? ⟨g, j, none⟩ = some u) ∧ ∀ g, (F none).ownBlock = some g → g < w.heap.size := by
  refine ⟨fun g j u hg hj => ?_, fun g hg => (h.fam.own none trivial).lt_size g hg⟩
  have := World.ownsRow.cells (h.fam.own none trivial) hg j u hj
  rwa [add_none, Nat.zero_add] at this
set_option maxRecDepth 100000 in
set_option maxHeartbeats 1000000 in
theorem list_any (h : TabAt w B gp n E p cb F L) (hl : L.length ≤ 5000) (a b : Int) :
    Calls Tryd.prog 13 #[.pointer (some ⟨p, 0, none⟩), .int .i64 a, .int .i64 b] w (RetList w (chgsL L a b)) := by
  obtain ⟨ob, hob⟩ : ∃ ob, ob = w.heap.size := ⟨_, rfl⟩
  obtain ⟨W0, hW0⟩ : ∃ W0, W0 = w.alloc (.cells #[.slice none 0 0] 23) := ⟨_, rfl⟩
  have hb0 : Below w.heap.size w W0 := by rw [hW0]; exact (Below.refl _ _).alloc (Nat.le_refl _) _
  have hz0 : ob < W0.heap.size := by rw [hW0, hob]; simp
  have k0 : W0.cell? ⟨ob, 0, none⟩ = some (.slice none 0 0) := by rw [hW0, World.cell?_alloc_at (hn := hob)]; rfl
  have k1 : W0.frozen? ⟨ob, 0, none⟩ = false := by rw [hW0, World.frozen?_alloc_at (hn := hob)]
  have hch := changes_any (h.below hb0) (by omega) a b
  have HCH := Lib.hid hch
  have HT := Lib.hid (h.below hb0)
  have HT0 := Lib.hid (tab_cells h)
  have HW0 := Lib.hid hW0
  have HB0 := Lib.hid hb0
  have HK := Lib.hid (And.intro k0 k1)
  have HOB := Lib.hid hob
  clear hch h hW0 hb0 k0 k1
  go_enter Tryd.func13, Tryd.ntmps13
  go_wp2_with fail
  rw [← HW0.out, ← hob]
  clear hob
  refine HCH.out.mono ?_
  rintro e w2 ⟨lb, A', rfl, hlb1, hlb2, hlbc, hsub, hb2⟩
  obtain ⟨S, hS⟩ : ∃ S, S = chgsL L a b := ⟨_, rfl⟩
  have hSl : S.length ≤ 5000 := by rw [hS]; exact Nat.le_trans (chgsL_len _ _ _) hl
  rw [← hS] at hlbc hsub
  have HS := Lib.hid hS
  have hz2 : ob < w2.heap.size := Nat.lt_of_lt_of_le hz0 hb2.size
  have HB2 := Lib.hid (HB0.out.trans (hb2.mono HB0.out.size))
  have hlob : lb ≠ ob := by omega
  have hit := it_list S A' lb ob (fun k X => OutAt w2 ob (S.take k) X) w2
    ⟨⟨.slice none 0 0, (hb2.cell (p := ⟨ob, 0, none⟩) hz0).trans HK.out.1, OwnR.nil _ _ _⟩, (hb2.frozen (p := ⟨ob, 0, none⟩) hz0).trans HK.out.2, hz2, Only.refl⟩ hlbc (by omega)
    (fun k X hX => by
      have hc := tab_cells (HT.out.below hb2)
      refine sub_chgs hsub (fun g j u hg hj => ?_) (fun g hg => Nat.lt_of_lt_of_le (hc.2 g hg) hX.only.size)
      refine (hX.only.cell (a := ⟨g, j, none⟩) (hc.2 g hg) ?_).trans (hc.1 g j u hg hj)
      intro q
      have q : g = ob := q
      have h1 := HT0.out.2 g hg
      have := HOB.out
      omega)
    (fun k c X hk hX => by
      have hXa : OutAt w2 ob (S.take k) (X.alloc (.cells #[.int .i64 c.tick, .int .i64 c.edge, .int .i64 c.time] 57)) := by
        obtain ⟨v, hv, hown⟩ := hX.out
        have hbx := (Below.refl X.heap.size X).alloc (Nat.le_refl _) (.cells #[.int .i64 c.tick, .int .i64 c.edge, .int .i64 c.time] 57)
        have hzx : ob < X.heap.size := Nat.lt_of_lt_of_le hX.lt hX.only.size
        exact ⟨⟨v, (hbx.cell (p := ⟨ob, 0, none⟩) hzx).trans hv, OwnR.alloc hown _⟩, (hbx.frozen (p := ⟨ob, 0, none⟩) hzx).trans hX.froz, hX.lt, hX.only.trans (Only.of_below (S := fun b => b = ob) hbx) (fun _ _ q => q)⟩
      have hkl := (List.getElem?_eq_some_iff.1 hk).1
      have h1 := list1_any w2 ob (S.take k) c _ hXa (by have := List.length_take_le k S; omega)
      rw [List.take_succ_eq_append_getElem hkl, (List.getElem?_eq_some_iff.1 hk).2]
      exact h1)
  have HIT := Lib.hid hit
  clear hit hlbc hsub hb2
  go_wp2_with fail
  refine HIT.out.mono ?_
  rintro e w3 ⟨rfl, hI⟩
  obtain ⟨v, hv, hown⟩ := hI.out
  have HI := Lib.hid hI
  rw [List.take_length] at hown
  have HOW := Lib.hid hown
  obtain ⟨A6, c6, rfl, hsl6⟩ := OwnR.sl hown
  clear hI hown hsl6
  go_wp2_with fail
  go_ret
  refine ⟨_, rfl, by rw [← HS.out]; exact OwnR.base_le HOW.out HB2.out.size, ?_⟩
  exact HB2.out.trans (HI.out.only.below HB2.out.size (fun b q => by have q : b = ob := q; have := HOB.out; omega))
end
end Go.Proofs.YtppbmnlneoinhaaDoor
