/-
  traveltimes.formatChange and Format.
-/
import Derived.Test.YtppbmnlneoinhaaDoorReadyT
import Derived.Test.YtppbmnlneoinhaaDoorBuild
import Derived.Test.YtppbmnlneoinhaaDoorTab
import Derived.Lib.ItoaLen
import Derived.Deep.RegionHeld3
import Derived.Deep.DeepCutAuto
namespace Go.Proofs.YtppbmnlneoinhaaDoor
open Go.RowKit Go.Maps

/-- the text of a time. -/
def timeText (t : Int) : List UInt8 := if t = 4611686018427387904 then [99, 108, 111, 115, 101, 100] else Lib.itoa t
/-- the line of a change. -/
def lineC (c : ChgT) : List UInt8 := Lib.itoa c.tick ++ [32] ++ Lib.itoa c.edge ++ [32] ++ timeText c.time ++ [10]
def textC (L : List ChgT) : List UInt8 := L.flatMap lineC

/-- the integers of a change are integers of 64 bits. -/
def wfC (c : ChgT) : Prop := (-9223372036854775808 ≤ c.tick ∧ c.tick ≤ 9223372036854775807) ∧ (-9223372036854775808 ≤ c.edge ∧ c.edge ≤ 9223372036854775807) ∧ -9223372036854775808 ≤ c.time ∧ c.time ≤ 9223372036854775807

def HoldC (W : World) (eb : Nat) (tick edge : Int) (w' : World) : Prop := w'.cell? ⟨eb, 0, none⟩ = some (.int .i64 tick) ∧ w'.cell? ⟨eb, 1, none⟩ = some (.int .i64 edge) ∧ Ready w' ∧ Below W.heap.size W w'
theorem hc_next {W w1 w2 : World} {eb : Nat} {tick edge : Int} (h : w1.cell? ⟨eb, 0, none⟩ = some (.int .i64 tick) ∧ w1.cell? ⟨eb, 1, none⟩ = some (.int .i64 edge) ∧ Ready w1 ∧ Below W.heap.size W w1) (hz : eb < W.heap.size) (hb : Below w1.heap.size w1 w2) :
    w2.cell? ⟨eb, 0, none⟩ = some (.int .i64 tick) ∧ w2.cell? ⟨eb, 1, none⟩ = some (.int .i64 edge) ∧ Ready w2 ∧ Below W.heap.size W w2 := by
  obtain ⟨h0, h1, h2, h3⟩ := h
  have hl : eb < w1.heap.size := Nat.lt_of_lt_of_le hz h3.size
  exact ⟨(hb.cell (p := ⟨eb, 0, none⟩) hl).trans h0, (hb.cell (p := ⟨eb, 1, none⟩) hl).trans h1, h2.below hb, below_then h3 hb⟩
theorem timeText_small {n : Int} (h0 : -9223372036854775808 ≤ n) (h1 : n ≤ 9223372036854775807) : (timeText n).length ≤ 21 := by
  unfold timeText
  split
  · simp
  · exact Lib.itoa_length_le _ h0 h1

set_option maxRecDepth 100000 in
set_option maxHeartbeats 2000000 in
theorem fmtChange_any (c : ChgT) (w : World) (hc : wfC c) (hr : Ready w) :
    Calls Tryd.prog 24 #[.agg #[.int .i64 c.tick, .int .i64 c.edge, .int .i64 c.time]] w fun e w' => e = .returned (.string (bs (lineC c))) ∧ Below w.heap.size w w' := by
  obtain ⟨tick, edge, time⟩ := c
  obtain ⟨⟨t0, t1⟩, ⟨g0, g1⟩, m0, m1⟩ := hc
  dsimp only at t0 t1 g0 g1 m0 m1
  show Calls Tryd.prog 24 #[.agg #[.int .i64 tick, .int .i64 edge, .int .i64 time]] w _
  obtain ⟨W, hW⟩ : ∃ W, W = w.alloc (.cells #[.int .i64 tick, .int .i64 edge, .int .i64 time] 57) := ⟨_, rfl⟩
  have hb0 : Below w.heap.size w W := by rw [hW]; exact (Below.refl _ _).alloc (Nat.le_refl _) _
  have hz : w.heap.size < W.heap.size := by rw [hW]; simp
  have c0 : W.cell? ⟨w.heap.size, 0, none⟩ = some (.int .i64 tick) := by rw [hW, World.cell?_alloc_at (hn := rfl)]; rfl
  have c1 : W.cell? ⟨w.heap.size, 1, none⟩ = some (.int .i64 edge) := by rw [hW, World.cell?_alloc_at (hn := rfl)]; rfl
  have c2 : W.cell? ⟨w.heap.size, 2, none⟩ = some (.int .i64 time) := by rw [hW, World.cell?_alloc_at (hn := rfl)]; rfl
  have hrW := hr.below hb0
  have HR := Lib.hid hrW
  have HW := Lib.hid hW
  have HB0 := Lib.hid hb0
  have HC := Lib.hid (And.intro c0 c1)
  clear hr hrW hW hb0
  go_enter Tryd.func24, Tryd.ntmps24
  go_upto_if 6 with (fail)
  rw [← HW.out]
  go_cut [3] (fun v wx => v = .string (bs (timeText time)) ∧ wx.cell? ⟨w.heap.size, 0, none⟩ = some (.int .i64 tick) ∧ wx.cell? ⟨w.heap.size, 1, none⟩ = some (.int .i64 edge) ∧ Ready wx ∧ Below W.heap.size W wx)
  case first =>
    by_cases q : time = 4611686018427387904
    · subst q
      go_wp2_with fail
      go_meet
      case rel => exact ⟨rfl, HC.out.1, HC.out.2, HR.out, Below.refl _ _⟩
    · have dq : (time != 4611686018427387904) = true := by simpa using q
      have HQ := Lib.hid (show timeText time = Lib.itoa time from if_neg q)
      clear q
      go_wp2_with fail
      refine (formatInt_any time m0 m1 W HR.out).mono ?_
      rintro e w1 ⟨rfl, hb1⟩
      have HX := Lib.hid (hc_next ⟨HC.out.1, HC.out.2, HR.out, Below.refl _ _⟩ hz hb1)
      clear hb1
      go_wp2_with fail
      go_meet
      case rel => exact ⟨by rw [HQ.out], HX.out⟩
  case rest =>
    obtain ⟨rfl, hcut⟩ := hcut
    have HCUT := Lib.hid hcut
    obtain ⟨d0, d1, d2, d3⟩ := hcut
    clear c0 c1 c2 d2 d3
    have hS : ∀ w', Below wc.heap.size wc w' → w'.cell? ⟨w.heap.size, 0, none⟩ = some (.int .i64 tick) ∧ w'.cell? ⟨w.heap.size, 1, none⟩ = some (.int .i64 edge) ∧ Ready w' ∧ Below W.heap.size W w' := fun w' hb => hc_next HCUT.out hz hb
    have HS := Lib.hid hS
    clear hS
    have s1 : (bs (Lib.itoa tick)).size ≤ 21 := by rw [bs_size]; exact Lib.itoa_length_le _ t0 t1
    have s2 : (bs (Lib.itoa edge)).size ≤ 21 := by rw [bs_size]; exact Lib.itoa_length_le _ g0 g1
    have s3 : (bs (timeText time)).size ≤ 21 := by rw [bs_size]; exact timeText_small m0 m1
    have HTXT := Lib.hid (show (((((bs (Lib.itoa tick) ++ ⟨#[32]⟩) ++ bs (Lib.itoa edge)) ++ ⟨#[32]⟩) ++ bs (timeText time)) ++ ⟨#[10]⟩) = bs (lineC ⟨tick, edge, time⟩) from by
      rw [show (⟨#[32]⟩ : ByteArray) = bs [32] from rfl, show (⟨#[10]⟩ : ByteArray) = bs [10] from rfl, bs_append, bs_append, bs_append, bs_append, bs_append]
      rfl)
    go_wp2_with fail
    refine wp_region_held_drew (S := (fun w' => w'.cell? ⟨w.heap.size, 0, none⟩ = some (.int .i64 tick) ∧ w'.cell? ⟨w.heap.size, 1, none⟩ = some (.int .i64 edge) ∧ Ready w' ∧ Below W.heap.size W w')) (by kernel_rfl) (HS.out _ (below_drewN (Below.refl _ _) 1)) (fun hHeld => ?_)
    refine wpAnyH_take (i := 0) (v := .pointer (some ⟨w.heap.size, 0, none⟩)) rfl (by kernel_rfl) (by kernel_rfl) (by kernel_rfl) (fun _ _ _ h => h) (Or.inl ⟨by rfl, ?_⟩) (by assumption) ?_
    · intro w hSw
      obtain ⟨s0, s01, _, _⟩ := hSw
      go_simp
    show wpAnyH _ _ _ _ _ _ _ (Act.put _ (some 10) _) _
    simp only [Act.put, List.setIfInBounds_toArray, List.set_cons_zero, List.set_cons_succ]
    refine wpAnyH_take (i := 1) (v := .int .i64 tick) rfl (by kernel_rfl) (by kernel_rfl) (by kernel_rfl) (fun _ _ _ h => h) (Or.inl ⟨by rfl, ?_⟩) (by assumption) ?_
    · intro w hSw
      obtain ⟨s0, s01, _, _⟩ := hSw
      go_simp
    show wpAnyH _ _ _ _ _ _ _ (Act.put _ (some 11) _) _
    simp only [Act.put, List.setIfInBounds_toArray, List.set_cons_zero, List.set_cons_succ]
    refine wpAnyH_take (i := 4) (v := .pointer (some ⟨w.heap.size, 1, none⟩)) rfl (by kernel_rfl) (by kernel_rfl) (by kernel_rfl) (fun _ _ _ h => h) (Or.inl ⟨by rfl, ?_⟩) (by assumption) ?_
    · intro w hSw
      obtain ⟨s0, s01, _, _⟩ := hSw
      go_simp
    show wpAnyH _ _ _ _ _ _ _ (Act.put _ (some 14) _) _
    simp only [Act.put, List.setIfInBounds_toArray, List.set_cons_zero, List.set_cons_succ]
    refine wpAnyH_take (i := 5) (v := .int .i64 edge) rfl (by kernel_rfl) (by kernel_rfl) (by kernel_rfl) (fun _ _ _ h => h) (Or.inl ⟨by rfl, ?_⟩) (by assumption) ?_
    · intro w hSw
      obtain ⟨s0, s01, _, _⟩ := hSw
      go_simp
    show wpAnyH _ _ _ _ _ _ _ (Act.put _ (some 15) _) _
    simp only [Act.put, List.setIfInBounds_toArray, List.set_cons_zero, List.set_cons_succ]
    refine wpAnyH_take (i := 9) (v := .string (bs (timeText time))) rfl (by kernel_rfl) (by kernel_rfl) (by kernel_rfl) (fun _ _ _ h => h) (Or.inl ⟨by rfl, ?_⟩) (by assumption) ?_
    · intro w hSw
      obtain ⟨s0, s01, _, _⟩ := hSw
      go_simp
    show wpAnyH _ _ _ _ _ _ _ (Act.put _ (some 19) _) _
    simp only [Act.put, List.setIfInBounds_toArray, List.set_cons_zero, List.set_cons_succ]
    have hHeld := HS.out wc.drew (below_drewN (Below.refl _ _) 1)
    refine wpAnyH_ready (rs := [2]) (by kernel_rfl) (by simp) ?_
    refine AllReadyH.cons rfl (fun K hK => ?_) AllReadyH.nil
    have hq := hHeld
    go_simp
    ((with_reducible refine (formatInt_any _ t0 t1 _ hq.2.2.1).mono ?_))
    rintro e w2 ⟨rfl, hbi⟩
    have hn := hc_next hq hz hbi
    clear hq
    go_simp
    refine hK.out _ _ hn (fun hHeld => ?_)
    clear hK K hbi hHeld
    have hHeld := hn
    clear hn
    refine wpAnyH_take (i := 3) (v := .string (bs (Lib.itoa tick) ++ ⟨#[32]⟩)) rfl (by kernel_rfl) (by kernel_rfl) (by kernel_rfl) (fun _ _ _ h => h) (Or.inl ⟨by rfl, ?_⟩) (by assumption) ?_
    · intro w hSw
      obtain ⟨s0, s01, _, _⟩ := hSw
      go_simp
      omega
    refine wpAnyH_ready (rs := [6]) (by kernel_rfl) (by simp) ?_
    refine AllReadyH.cons rfl (fun K hK => ?_) AllReadyH.nil
    have hq := hHeld
    go_simp
    ((with_reducible refine (itoa_any _ g0 g1 _ hq.2.2.1).mono ?_))
    rintro e w2 ⟨rfl, hbi⟩
    have hn := hc_next hq hz hbi
    clear hq
    go_simp
    refine hK.out _ _ hn (fun hHeld => ?_)
    clear hK K hbi hHeld
    have hHeld := hn
    clear hn
    refine wpAnyH_take (i := 7) (v := .string ((bs (Lib.itoa tick) ++ ⟨#[32]⟩) ++ bs (Lib.itoa edge))) rfl (by kernel_rfl) (by kernel_rfl) (by kernel_rfl) (fun _ _ _ h => h) (Or.inl ⟨by rfl, ?_⟩) (by assumption) ?_
    · intro w hSw
      obtain ⟨s0, s01, _, _⟩ := hSw
      go_simp
      omega
    refine wpAnyH_take (i := 8) (v := .string (((bs (Lib.itoa tick) ++ ⟨#[32]⟩) ++ bs (Lib.itoa edge)) ++ ⟨#[32]⟩)) rfl (by kernel_rfl) (by kernel_rfl) (by kernel_rfl) (fun _ _ _ h => h) (Or.inl ⟨by rfl, ?_⟩) (by assumption) ?_
    · intro w hSw
      obtain ⟨s0, s01, _, _⟩ := hSw
      go_simp
      omega
    refine wpAnyH_take (i := 10) (v := .string ((((bs (Lib.itoa tick) ++ ⟨#[32]⟩) ++ bs (Lib.itoa edge)) ++ ⟨#[32]⟩) ++ bs (timeText time))) rfl (by kernel_rfl) (by kernel_rfl) (by kernel_rfl) (fun _ _ _ h => h) (Or.inl ⟨by rfl, ?_⟩) (by assumption) ?_
    · intro w hSw
      obtain ⟨s0, s01, _, _⟩ := hSw
      go_simp
      omega
    refine wpAnyH_take (i := 11) (v := .string (((((bs (Lib.itoa tick) ++ ⟨#[32]⟩) ++ bs (Lib.itoa edge)) ++ ⟨#[32]⟩) ++ bs (timeText time)) ++ ⟨#[10]⟩)) rfl (by kernel_rfl) (by kernel_rfl) (by kernel_rfl) (fun _ _ _ h => h) (Or.inl ⟨by rfl, ?_⟩) (by assumption) ?_
    · intro w hSw
      obtain ⟨s0, s01, _, _⟩ := hSw
      go_simp
      omega
    refine wpAnyH_take (i := 12) (v := .string (((((bs (Lib.itoa tick) ++ ⟨#[32]⟩) ++ bs (Lib.itoa edge)) ++ ⟨#[32]⟩) ++ bs (timeText time)) ++ ⟨#[10]⟩)) rfl (by kernel_rfl) (by kernel_rfl) (by kernel_rfl) (fun _ _ _ h => h) (Or.inl ⟨by rfl, ?_⟩) (by assumption) ?_
    · intro w hSw
      obtain ⟨s0, s01, _, _⟩ := hSw
      go_simp
    refine wpAnyH_done (by kernel_rfl) ?_ _
    go_wp2_with fail
    go_ret
    exact ⟨ret_str HTXT.out, HB0.out.trans (hHeld.2.2.2.mono (Nat.le_of_lt hz))⟩
end Go.Proofs.YtppbmnlneoinhaaDoor
