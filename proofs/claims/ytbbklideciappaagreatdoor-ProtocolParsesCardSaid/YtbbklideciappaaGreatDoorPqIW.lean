/-
  samaritanlaw12.alive: the example of the chapter.
-/
import Derived.Test.YtbbklideciappaaGreatDoorPqH
import Derived.Test.YtbbklideciappaaGreatDoorPqI
import Derived.Test.YtbbklideciappaaGreatDoorPqF
namespace Go.Proofs.YtbbklideciappaaGreatDoor
open Go.RowKit Go.Maps

theorem ex_parse (w : World) (hr : Ready w) : Calls Tryz.prog 13 #[.string (bs exT)] w fun e w' => ∃ p, e = .returned (.tuple #[.agg #[.string p.name, .int .i64 p.ver, .slice p.qA 2 p.qc], .int .i64 0, .int .i64 0]) ∧ conOf p = conOf exP ∧ ProtAt w' w'.heap.size p ∧ CntLe p 1000000000 ∧ Below w.heap.size w w' := by
  have h := parse_any (bs exT) (by rw [bs_size]; decide) (linesP exP) [] (by rw [bs_data, List.append_nil]; exact ex_text.symm) (lines_ten ex_ok) (by simp) w hr
  refine h.mono ?_
  rintro e w' ⟨p, a, b, rfl, hp, hat, hcn, hb⟩
  obtain ⟨h1, rfl, rfl⟩ := ex_parses hp rfl
  obtain ⟨q0, q1, hq, _⟩ := ex_qs h1
  refine ⟨p, ?_, h1, hat, hcn, hb⟩
  rw [hq]
  rfl
theorem ex_format (w : World) (hr : Ready w) (p : Prot) (h : conOf p = conOf exP) (hat : ProtAt w w.heap.size p) (hc : CntLe p 1000000000) : Calls Tryz.prog 18 #[.agg #[.string p.name, .int .i64 p.ver, .slice p.qA 2 p.qc]] w fun e w' => e = .returned (.tuple #[.string (bs exT), .int .i64 0]) ∧ Below w.heap.size w w' := by
  have hok : ProtOk p := ok_con h.symm ex_ok
  have h1 := format_ok w p hat (by have := hc.1; omega) hok hr
  rw [text_con h, ex_text] at h1
  obtain ⟨q0, q1, hq, _⟩ := ex_qs h
  rw [hq] at h1
  exact h1
theorem ex_succ (w : World) (p : Prot) (h : conOf p = conOf exP) (hat : ProtAt w w.heap.size p) (hc : CntLe p 1000000000) : Calls Tryz.prog 16 #[.agg #[.string p.name, .int .i64 p.ver, .slice p.qA 2 p.qc], .int .i64 0] w fun e w' => ∃ g cap, e = .returned (.slice (some ⟨g, 0, none⟩) 1 cap) ∧ w'.cell? ⟨g, 0, none⟩ = some (.int .i64 1) ∧ Below w.heap.size w w' := by
  have h1 := successors_any w p hat hc 0
  obtain ⟨q0, q1, hq, _⟩ := ex_qs h
  rw [hq] at h1
  refine h1.mono ?_
  rintro e w' ⟨v, L, rfl, hL, hown, _, hb⟩
  obtain rfl := ex_next h hL
  obtain ⟨A, c, rfl, hsl⟩ := OwnV.sl hown
  obtain ⟨b, o, hA, _, hcell⟩ := hsl.int (j := 0) (z := 1) rfl
  rcases hown.2 with ⟨hv, hn⟩ | ⟨g, cap, cur, hv, _⟩
  · exact absurd hn (by decide)
  · injection hv with hv1 hv2 hv3
    subst hv1
    injection hA with hA
    injection hA with e1 e2
    subst e1 e2
    exact ⟨g, c, rfl, by simpa using hcell, hb⟩
set_option maxRecDepth 100000 in
set_option maxHeartbeats 8000000 in
theorem awake_any (w : World) (hr : Ready w) : Calls Tryz.prog 9 #[] w fun e w' => e = .returned (.bool true) ∧ Below w.heap.size w w' := by
  have HR := Lib.hid hr
  clear hr
  have HP := Lib.hid (ex_parse w HR.out)
  go_enter Tryz.func9, Tryz.ntmps9
  go_wp2_with fail
  refine HP.out.mono ?_
  rintro e w1 ⟨p, rfl, hcon, hat, hcn, hb1⟩
  obtain ⟨q0, q1, hq, ha⟩ := ex_qs hcon
  have hb2 := below_new w1 (.cells #[.string p.name, .int .i64 p.ver, .slice p.qA 2 p.qc] 24)
  obtain ⟨f0, f1, f2⟩ := fresh3 w1 (.string p.name) (.int .i64 p.ver) (.slice p.qA 2 p.qc) 24
  have hz := lt_new w1 (.cells #[.string p.name, .int .i64 p.ver, .slice p.qA 2 p.qc] 24)
  obtain ⟨W2, hW2⟩ : ∃ W2, W2 = w1.alloc (.cells #[.string p.name, .int .i64 p.ver, .slice p.qA 2 p.qc] 24) := ⟨_, rfl⟩
  rw [← hW2] at hb2 f0 f1 f2 hz
  have hat2 := (hat.below hb2).more hb2.size
  obtain ⟨b, o, hA, hbb, c0, c1, hrec⟩ := ques_at hat (i := 0) (t := q0) (by rw [hq]; rfl)
  obtain ⟨b2, o2, hA2, hbb2, d0, d1, d2, d3⟩ := ans_at hrec (i := 0) (t := exA) (by rw [ha]; rfl)
  rw [ha, hA2] at c1
  rw [hA] at f2 hW2
  simp only [Nat.zero_mul, Nat.add_zero] at c0 c1 d3
  replace c1 : w1.cell? ⟨b, o + 1, none⟩ = some (.slice (some ⟨b2, o2, none⟩) 2 q0.ac) := c1
  replace d3 : w1.cell? ⟨b2, o2 + 3, none⟩ = some (.string ⟨#[97, 114, 114, 101, 115, 116]⟩) := d3
  have hne : ¬ b = w1.heap.size := by omega
  have HBA := Lib.hid hb2
  have H2 := Lib.hid (And.intro hat2 (And.intro hcn (And.intro hcon (And.intro hA (hb1.trans (hb2.mono hb1.size))))))
  clear hat hcn hb1 hb2 hat2 hrec d0 d1 d2 c0 hq ha hcon
  rw [hA]
  go_wp2_with fail
  rw [← hW2]
  clear hW2
  replace c1 := (HBA.out.cell (p := ⟨b, o + 1, none⟩) hbb).trans c1
  replace d3 := (HBA.out.cell (p := ⟨b2, o2 + 3, none⟩) hbb2).trans d3
  replace hbb := Nat.lt_of_lt_of_le hbb HBA.out.size
  replace hbb2 := Nat.lt_of_lt_of_le hbb2 HBA.out.size
  have HFM := Lib.hid (ex_format W2 (HR.out.below H2.out.2.2.2.2) p H2.out.2.2.1 H2.out.1 H2.out.2.1)
  rw [hA] at HFM
  refine HFM.out.mono ?_
  rintro e w3 ⟨rfl, hb3⟩
  have HB3 := Lib.hid (And.intro ((H2.out.1.below hb3).more hb3.size) (And.intro (H2.out.2.2.2.2.trans (hb3.mono H2.out.2.2.2.2.size)) (hb3.size)))
  replace f0 := (hb3.cell (p := ⟨w1.heap.size, 0, none⟩) hz).trans f0
  replace f1 := (hb3.cell (p := ⟨w1.heap.size, 1, none⟩) hz).trans f1
  replace f2 := (hb3.cell (p := ⟨w1.heap.size, 2, none⟩) hz).trans f2
  replace c1 := (hb3.cell (p := ⟨b, o + 1, none⟩) hbb).trans c1
  replace d3 := (hb3.cell (p := ⟨b2, o2 + 3, none⟩) hbb2).trans d3
  replace hz := Nat.lt_of_lt_of_le hz hb3.size
  replace hbb := Nat.lt_of_lt_of_le hbb hb3.size
  replace hbb2 := Nat.lt_of_lt_of_le hbb2 hb3.size
  clear hb3 HFM HP
  have HSC := Lib.hid (ex_succ w3 p H2.out.2.2.1 HB3.out.1 H2.out.2.1)
  rw [hA] at HSC
  go_wp2_with fail
  refine HSC.out.mono ?_
  rintro e w4 ⟨g, cap, rfl, hg, hb4⟩
  have HB4 := Lib.hid (HB3.out.2.1.trans (hb4.mono HB3.out.2.1.size))
  replace f2 := (hb4.cell (p := ⟨w1.heap.size, 2, none⟩) hz).trans f2
  replace c1 := (hb4.cell (p := ⟨b, o + 1, none⟩) hbb).trans c1
  replace d3 := (hb4.cell (p := ⟨b2, o2 + 3, none⟩) hbb2).trans d3
  clear hb4 HSC f0 f1
  have he : (bs exT).toList = [112, 114, 111, 116, 111, 99, 111, 108, 32, 109, 97, 105, 110, 32, 49, 10, 63, 32, 68, 111, 101, 115, 32, 97, 110, 121, 98, 111, 100, 121, 32, 98, 114, 101, 97, 116, 104, 101, 63, 10, 45, 32, 110, 111, 32, 61, 32, 49, 32, 97, 114, 114, 101, 115, 116, 10, 45, 32, 121, 101, 115, 32, 62, 32, 49, 10, 63, 32, 87, 104, 101, 114, 101, 63, 10, 45, 32, 104, 111, 109, 101, 32, 61, 32, 51, 32, 102, 97, 108, 108, 10] := by
    rw [ByteArray.toList_eq]
    exact bs_data exT
  go_wp2_with fail
  go_ret
  exact ⟨rfl, HB4.out⟩
end Go.Proofs.YtbbklideciappaaGreatDoor
