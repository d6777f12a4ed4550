/-
  Format of a table.
-/
import Derived.Test.YtppbmnlneoinhaaDoorFmtC
import Derived.Test.YtppbmnlneoinhaaDoorOnly
namespace Go.Proofs.YtppbmnlneoinhaaDoor
open Go.RowKit Go.Maps

theorem bld_below {T e : TypeId} {B b : Nat} {l : List Value} {w w' : World} (h : Lib.IsBuilder T e B b l w) (hb : Below w.heap.size w w') : Lib.IsBuilder T e B b l w' := by
  have key : ∀ p, Lib.BuilderAt T e B b p l w → Lib.BuilderAt T e B b p l w' := by
    rintro p ⟨h0, v, h1, h2, h3⟩
    have hl : b < w.heap.size := (Array.getElem?_eq_some_iff.1 h1).1
    exact ⟨h0, v, (hb.block b hl).trans h1, (Only.of_below (S := fun _ => False) hb).row h2 (fun _ _ q => q), h3⟩
  exact h.imp (key _) (key _)
theorem textC_take {L : List ChgT} {k : Nat} {c : ChgT} (h : L[k]? = some c) : textC (L.take (k + 1)) = textC (L.take k) ++ lineC c := by
  have hk := (List.getElem?_eq_some_iff.1 h).1
  have e : L.take (k + 1) = L.take k ++ [c] := by rw [List.take_succ_eq_append_getElem hk, (List.getElem?_eq_some_iff.1 h).2]
  rw [e]
  unfold textC
  rw [List.flatMap_append]
  simp
theorem lineC_len {c : ChgT} (h : wfC c) : (lineC c).length ≤ 70 := by
  obtain ⟨⟨t0, t1⟩, ⟨g0, g1⟩, m0, m1⟩ := h
  have h1 := Lib.itoa_length_le _ t0 t1
  have h2 := Lib.itoa_length_le _ g0 g1
  have h3 := timeText_small m0 m1
  unfold lineC
  simp
  omega
theorem textC_len {L : List ChgT} (h : ∀ c ∈ L, wfC c) : (textC L).length ≤ 70 * L.length := by
  unfold textC
  induction L with
  | nil => simp
  | cons c L ih =>
    rw [List.flatMap_cons, List.length_append, List.length_cons]
    have h1 := lineC_len (h c (by simp))
    have h2 := ih (fun x hx => h x (by simp [hx]))
    omega
theorem ok_wf {m : Nat} (hm : m ≤ 16384) {c : ChgT} (h : okC m c) : wfC c := by
  unfold okC at h
  unfold wfC
  omega
theorem strCells_bs (l : List UInt8) : Lib.strCells (bs l) = Lib.byteCells l := by
  unfold Lib.strCells Lib.byteCells
  simp [bs]
theorem byteCells_app (a b : List UInt8) : Lib.byteCells a ++ Lib.byteCells b = Lib.byteCells (a ++ b) := by
  unfold Lib.byteCells
  simp

set_option maxRecDepth 100000 in
set_option maxHeartbeats 2000000 in
theorem format_any {w : World} {B gp n : Nat} {E : List EdgeT} {p cb : Nat} {F : Option Nat → Value} {L : List ChgT} (h : TabAt w B gp n E p cb F L) (hE : E.length ≤ 16384) (hl : L.length ≤ 100000) (hr : Ready w) :
    Calls Tryd.prog 9 #[.pointer (some ⟨p, 0, none⟩)] w fun e w' => e = .returned (.string (bs (textC L))) ∧ Below w.heap.size w w' := by
  have hwf : ∀ c ∈ L, wfC c := fun c hc => ok_wf hE (h.oks c hc)
  have c1 : w.cell? ⟨p, 1, none⟩ = some (F none) := h.fam.cell none trivial
  obtain ⟨A, cp, hF, hsl⟩ := (h.fam.own none trivial).sl
  rw [hF] at c1
  replace c1 : w.cell? ⟨p, 1, none⟩ = some (.slice A L.length cp) := c1
  have hp : ¬ p = w.heap.size := by have := h.size; omega
  have hpz := h.size
  obtain ⟨W, hW⟩ : ∃ W, W = w.alloc (.cells #[.pointer none, .slice none 0 0] 64) := ⟨_, rfl⟩
  have hb0 : Below w.heap.size w W := by rw [hW]; exact (Below.refl _ _).alloc (Nat.le_refl _) _
  have hfresh : Lib.IsBuilder 64 5 w.heap.size w.heap.size [] W := by rw [hW]; exact Lib.fresh_isBuilder _ _ w
  obtain ⟨m, hm⟩ : ∃ m, m = L.length := ⟨_, rfl⟩
  have HM := Lib.hid hm
  have HW := Lib.hid hW
  have HB0 := Lib.hid hb0
  have HFR := Lib.hid hfresh
  have HWF := Lib.hid hwf
  have HSL := Lib.hid hsl
  have HR := Lib.hid hr
  rw [← hm] at c1 hl
  clear hwf hF hsl hW hb0 hfresh hr h hm
  go_enter Tryd.func9, Tryd.ntmps9
  go_wp2_with fail
  rw [← HW.out]
  go_loopw [5, 11] (fun _ iv wr => ∃ k : Nat, k ≤ m ∧ iv = .int .i64 k ∧ Lib.IsBuilder 64 5 w.heap.size w.heap.size (Lib.byteCells (textC (L.take k))) wr ∧ Below w.heap.size w wr) (fun _ i _ => m - (intOf i).toNat)
  case atStart => exact ⟨0, Nat.zero_le _, rfl, HFR.out, HB0.out⟩
  case round =>
    obtain ⟨k, hk, rfl, hbld, hb⟩ := hrel
    have HBLD := Lib.hid hbld
    have HB := Lib.hid hb
    by_cases hlt : k < m
    · obtain ⟨d, hd⟩ : ∃ d, L[k]? = some d := ⟨L[k]'(by have := HM.out; omega), by simp⟩
      obtain ⟨b, o, rfl, _, q0, q1, q2⟩ := chg_at (RecsAt.below HSL.out hb) hd
      have HD := Lib.hid hd
      obtain ⟨W1, hW1⟩ : ∃ W1, W1 = wr.alloc (.cells #[.int .i64 d.tick, .int .i64 d.edge, .int .i64 d.time] 57) := ⟨_, rfl⟩
      have hb1 : Below wr.heap.size wr W1 := by rw [hW1]; exact (Below.refl _ _).alloc (Nat.le_refl _) _
      have HW1 := Lib.hid hW1
      have HB1 := Lib.hid hb1
      clear hbld hb hd hW1 hb1
      go_wp2_with fail
      rw [← HW1.out]
      refine (fmtChange_any d W1 (HWF.out d (List.mem_of_getElem? HD.out)) (HR.out.below (HB.out.trans (HB1.out.mono HB.out.size)))).mono ?_
      rintro e w2 ⟨rfl, hb2⟩
      have HB2 := Lib.hid (below_then HB1.out hb2)
      have hz2 : w.heap.size ≤ w2.heap.size := Nat.le_trans HB.out.size HB2.out.size
      have hsz : (textC (L.take k)).length ≤ 7000000 := by
        have h1 := textC_len (L := L.take k) (fun c hc => HWF.out c (List.mem_of_mem_take hc))
        have h2 := List.length_take_le k L
        omega
      have hln := lineC_len (HWF.out d (List.mem_of_getElem? HD.out))
      have hws := writeString_any w.heap.size w.heap.size (Lib.byteCells (textC (L.take k))) (bs (lineC d)) w2 (bld_below HBLD.out HB2.out) (by rw [bs_size]; simp [Lib.byteCells]; omega) hz2
      have HWS := Lib.hid hws
      clear hb2 hws
      go_wp2_with fail
      refine HWS.out.mono ?_
      rintro e w3 ⟨rfl, hbld3, hb3⟩
      have HBLD3 := Lib.hid hbld3
      have HB3 := Lib.hid ((HB.out.trans (HB2.out.mono HB.out.size)).trans hb3)
      clear hbld3 hb3
      go_wp2_with fail
      go_roundw
      case rel =>
        refine ⟨k + 1, by omega, by go_num, .inr ?_, HB3.out⟩
        have h1 := HBLD3.out
        rw [strCells_bs, byteCells_app, ← textC_take HD.out] at h1
        exact h1
      case measure => simp [intOf]; omega
    · have hkk : k = m := by omega
      subst hkk
      have hst := Tryd.Builder_String_any w.heap.size w.heap.size (textC L) wr (by have := hbld; rw [HM.out, List.take_length] at this; exact this) hb.size
      have HST := Lib.hid hst
      clear hbld hb hst
      go_wp2_with fail
      refine HST.out.mono ?_
      rintro e w3 ⟨rfl, hb3⟩
      have HB3 := Lib.hid (HB.out.trans hb3)
      clear hb3
      go_wp2_with fail
      go_ret
      exact ⟨rfl, HB3.out⟩
end Go.Proofs.YtppbmnlneoinhaaDoor
