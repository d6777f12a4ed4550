/-
  At, All and Closed of a table.
-/
import Derived.Test.YtppbmnlneoinhaaDoorPick
import Derived.Outline
namespace Go.Proofs.YtppbmnlneoinhaaDoor
open Go.RowKit Go.Maps

/-- Edge at a number of an edge. -/
def RetEdge (w : World) (ed : EdgeT) (e : Ending) (w' : World) : Prop := e = .returned (.tuple #[.agg #[.int .i64 ed.frm, .int .i64 ed.to, .int .i64 ed.tm], .bool true]) ∧ Below w.heap.size w w'
set_option maxRecDepth 100000 in
theorem edge_any (p n : Nat) (E : List EdgeT) (w : World) (hg : GraphAt w w.heap.size p n E) (i : Nat) (ed : EdgeT) (hi : E[i]? = some ed) :
    Calls Tryd.prog 37 #[.pointer (some ⟨p, 0, none⟩), .int .i64 (i : Int)] w (RetEdge w ed) := by
  obtain ⟨A, c, c0, hed, hc1, hc2⟩ := hg.edges
  obtain ⟨b, o, rfl, hb, e0, e1, e2⟩ := hed.at hi
  have hil := (List.getElem?_eq_some_iff.1 hi).1
  have hpz := hg.lt
  have d1 : decide ((i : Int) < 0) = false := by simp
  have d2 : decide ((E.length : Int) ≤ (i : Int)) = false := by simp; omega
  have d2' : decide (E.length ≤ i) = false := by simp; omega
  have hpe : ¬ p = w.heap.size := by omega
  have hbe : ¬ b = w.heap.size := by omega
  obtain ⟨frm, too, tm⟩ := ed
  simp only at e0 e1 e2
  clear hi hed hg
  go_enter Tryd.func37, Tryd.ntmps37
  go_wp2_with fail
  refine bodyPost_ret (v := .tuple #[.agg #[.int .i64 frm, .int .i64 too, .int .i64 tm], .bool true]) (by simp [results, Tryd.results37, go_sem]) rfl ⟨rfl, ?_⟩
  exact (Below.refl _ _).alloc (Nat.le_refl _) _

section
variable {w : World} {B gp n : Nat} {E : List EdgeT} {p cb : Nat} {F : Option Nat → Value} {L : List ChgT}
set_option maxHeartbeats 1000000 in
theorem at_any (h : TabAt w B gp n E p cb F L) (hl : L.length ≤ 100000) (i t : Int) :
    Calls Tryd.prog 21 #[.pointer (some ⟨p, 0, none⟩), .int .i64 i, .int .i64 t] w fun r w' => r = .returned (.int .i64 (atE E L i t)) ∧ Below w.heap.size w w' := by
  have c2 := h.c2
  by_cases h0 : i < 0
  · have d0 : decide (i < 0) = true := by simpa using h0
    have HR := Lib.hid (atE_out (E := E) (i := i) (by omega) L t)
    go_enter Tryd.func21, Tryd.ntmps21
    go_wp2_with fail
    go_ret
    exact ⟨ret_int HR.out.symm, Below.refl _ _⟩
  · obtain ⟨x, rfl⟩ := Int.eq_ofNat_of_zero_le (show 0 ≤ i by omega)
    have d0 : decide ((x : Int) < 0) = false := by simp
    by_cases hx : E.length ≤ x
    · have d1 : decide (E.length ≤ x) = true := by simpa using hx
      have HR := Lib.hid (atE_out (E := E) (i := (x : Int)) (by omega) L t)
      clear h h0
      go_enter Tryd.func21, Tryd.ntmps21
      go_wp2_with fail
      go_ret
      exact ⟨ret_int HR.out.symm, Below.refl _ _⟩
    · have d1 : decide (E.length ≤ x) = false := by simpa using hx
      have hxm : x < E.length := by omega
      have hxj : (x : Int) < (E.length : Int) := by omega
      obtain ⟨e, he⟩ : ∃ e, E[x]? = some e := ⟨E[x], by simp⟩
      obtain ⟨A, cp, hF, hsl⟩ := (h.fam.own (some x) hxm).sl
      have c1 : w.cell? ⟨cb, x, none⟩ = some (F (some x)) := h.fam.cell (some x) hxm
      rw [hF] at c1
      obtain ⟨r, hr⟩ : ∃ r, r = tlist L (some x) := ⟨_, rfl⟩
      have hrl : r.length ≤ 100000 := by rw [hr]; exact Nat.le_trans (List.length_filter_le _ _) hl
      have hasc : Asc r := by rw [hr]; exact asc_filter h.asc _
      rw [← hr] at c1 hsl
      have hAt : atE E L (x : Int) t = pickT e.tm r (clampT t) := by rw [atE_in he, refAt_pick, hr]; rfl
      obtain ⟨T, hT⟩ : ∃ T, T = clampT t := ⟨_, rfl⟩
      rw [← hT] at hAt
      have hcnt := countBefore_any A cp r (T + 1) w hsl (by omega) hasc
      obtain ⟨hp0, hp1⟩ := pick_at hasc e.tm T
      have HAT := Lib.hid hAt
      have HCNT := Lib.hid hcnt
      have hcl := cntB_le r (T + 1)
      have HT := Lib.hid hT
      have hT0 : 0 ≤ T := by rw [hT]; exact clampT_lo t
      have hT1 : T ≤ 1099511627776 := by rw [hT]; exact clampT_hi t
      have hTt : min (max t 0) 1099511627776 = T := by rw [hT]; rfl
      clear hT hcnt hAt hr hF h0 hx
      cases hk : cntB r (T + 1) with
      | zero =>
        have HP := Lib.hid (hp0 hk)
        have HG := Lib.hid h.graph
        have hg0 := h.c0
        have hps := h.size
        have HBW := Lib.hid (show B ≤ w.heap.size by have := h.low; have := h.cbp; omega)
        have HE := Lib.hid he
        rw [hk] at HCNT
        clear hp0 hp1 hcl hk h hsl
        go_enter Tryd.func21, Tryd.ntmps21
        go_wp2_with fail
        refine HCNT.out.mono ?_
        rintro r1 w1 ⟨rfl, hb1⟩
        have hg1 : w1.cell? ⟨p, 0, none⟩ = some (.pointer (some ⟨gp, 0, none⟩)) := (hb1.cell (p := ⟨p, 0, none⟩) hps).trans hg0
        have HG1 := Lib.hid ((HG.out.below (hb1.mono HBW.out)).more (Nat.le_trans HBW.out hb1.size))
        have HB1 := Lib.hid hb1
        clear hb1 hg0
        go_wp2_with fail
        refine (edge_any gp n E w1 HG1.out x e HE.out).mono ?_
        rintro r2 w2 ⟨rfl, hb2⟩
        have HB2 := Lib.hid (HB1.out.trans (hb2.mono HB1.out.size))
        clear hb2
        go_wp2_with fail
        go_ret
        exact ⟨ret_int (by rw [HAT.out, HP.out]), HB2.out.alloc HB2.out.size _⟩
      | succ k =>
        obtain ⟨c, hc, hce⟩ := hp1 k hk
        obtain ⟨b, o, rfl, hbz, q0, q1, q2⟩ := chg_at (cs := r) hsl hc
        have HP := Lib.hid hce
        rw [hk] at HCNT hcl
        have hkz : (k : Int) < (r.length : Int) := by omega
        have hk0 : (0 : Int) ≤ (k : Int) := by omega
        clear hp0 hp1 hk h hsl hc hce q0 q1
        go_enter Tryd.func21, Tryd.ntmps21
        go_wp2_with fail
        refine HCNT.out.mono ?_
        rintro r1 w1 ⟨rfl, hb1⟩
        have q2' : w1.cell? ⟨b, o + k * 3 + 2, none⟩ = some (.int .i64 c.time) := (hb1.cell (p := ⟨b, o + k * 3 + 2, none⟩) hbz).trans q2
        have HB1 := Lib.hid hb1
        clear hb1 q2
        go_wp2_with fail
        go_ret
        exact ⟨ret_int (by rw [HAT.out, HP.out]), HB1.out⟩
end
end Go.Proofs.YtppbmnlneoinhaaDoor
