/-
  protocol.Checksum and the reference's Seal (printed by genpqsl.py).
-/
import Derived.Test.YtbbklideciappaaGreatDoorPqTx
import Derived.Test.YtbbklideciappaaGreatDoorPqHC
namespace Go.Proofs.YtbbklideciappaaGreatDoor
open Go.RowKit Go.Maps

/-- the checksum of a protocol. -/
noncomputable def chk (p : Prot) : Nat := if tb (ProtOk p) = true then sumL sum0 (textP p) else 0
theorem chk_ok {p : Prot} (h : ProtOk p) : chk p = sumL sum0 (textP p) := by unfold chk; rw [tb_true h, if_pos rfl]
theorem chk_bad {p : Prot} (h : ¬ ProtOk p) : chk p = 0 := by unfold chk; rw [tb_false h, if_neg (by decide)]
theorem chk_con {p q : Prot} (h : conOf p = conOf q) : chk p = chk q := by
  by_cases hp : ProtOk p
  · rw [chk_ok hp, chk_ok (ok_con h hp), text_con h]
  · rw [chk_bad hp, chk_bad (fun hq => hp (ok_con h.symm hq))]
set_option maxRecDepth 100000 in
set_option maxHeartbeats 4000000 in
theorem checksum_any (w : World) (p : Prot) (h : ProtAt w w.heap.size p) (hl9 : p.qs.length ≤ 9223372036854775807) (hr : Ready w) :
    Calls Tryz.prog 20 #[.agg #[.string p.name, .int .i64 p.ver, .slice p.qA p.qs.length p.qc]] w fun e w' => e = .returned (.int .u64 (chk p : Nat)) ∧ Below w.heap.size w w' := by
  have hb0 := below_new w (.cells #[.string p.name, .int .i64 p.ver, .slice p.qA p.qs.length p.qc] 24)
  obtain ⟨f0, f1, f2⟩ := fresh3 w (.string p.name) (.int .i64 p.ver) (.slice p.qA p.qs.length p.qc) 24
  obtain ⟨W0, hW0⟩ : ∃ W0, W0 = w.alloc (.cells #[.string p.name, .int .i64 p.ver, .slice p.qA p.qs.length p.qc] 24) := ⟨_, rfl⟩
  rw [← hW0] at hb0 f0 f1 f2
  have HV := Lib.hid (format_any W0 p (ProtAt.more (ProtAt.below h hb0) hb0.size) hl9 (hr.below hb0))
  have HB := Lib.hid hb0
  clear h hb0
  go_enter Tryz.func20, Tryz.ntmps20
  go_wp2_with fail
  rw [← hW0]
  clear hW0
  refine HV.out.mono ?_
  rintro e W1 ⟨s, b, rfl, hf, hb1⟩
  have HB1 := Lib.hid (HB.out.trans (hb1.mono HB.out.size))
  clear hb1 HV f0 f1 f2
  rcases hf with ⟨ok, hs, rfl⟩ | ⟨no, hs, rfl⟩
  · have HOK := Lib.hid ok
    have HLN := Lib.hid (text_len ok)
    obtain ⟨l, hl⟩ : ∃ l, l = textP p := ⟨_, rfl⟩
    rw [← hl] at HLN hs
    subst hs
    have HL := Lib.hid hl
    have hcv := Lib.run_convert_string_bytes (P := Tryz.prog) W1 9 59 5 (bs l) (u := .string) Tryz.underlying9 Tryz.underlying59 Tryz.underlying5
    have HS := Lib.hid (sum_any (some ⟨W1.heap.size, 0, none⟩) l (grownCap W1 (bs l).size 0 5) (Lib.bytesWorld W1 5 (bs l)) (W1.heap.size + 1) (conv_sl W1 l) (by have := HLN.out; omega))
    rw [← bs_size l] at HS
    have HBW := Lib.hid (Lib.bytesWorld_below W1 5 (bs l))
    clear ok hl
    go_wp2_with fail
    refine HS.out.mono ?_
    rintro e w' ⟨rfl, rfl⟩
    go_wp2_with fail
    go_ret
    exact ⟨by rw [chk_ok HOK.out, ← HL.out]; rfl, HB1.out.trans (HBW.out.mono HB1.out.size)⟩
  · subst hs
    have HNO := Lib.hid no
    clear no
    go_wp2_with fail
    go_ret
    exact ⟨by rw [chk_bad HNO.out]; rfl, HB1.out⟩
set_option maxRecDepth 100000 in
set_option maxHeartbeats 4000000 in
theorem seal_any (w : World) (p : Prot) (h : ProtAt w w.heap.size p) (hwf : ProtWf p) :
    Calls Tryz.prog 21 #[.agg #[.string p.name, .int .i64 p.ver, .slice p.qA p.qs.length p.qc]] w fun e w' => e = .returned (.int .u64 (chk p : Nat)) ∧ Below w.heap.size w w' := by
  have hb0 := below_new w (.cells #[.string p.name, .int .i64 p.ver, .slice p.qA p.qs.length p.qc] 24)
  obtain ⟨f0, f1, f2⟩ := fresh3 w (.string p.name) (.int .i64 p.ver) (.slice p.qA p.qs.length p.qc) 24
  obtain ⟨W0, hW0⟩ : ∃ W0, W0 = w.alloc (.cells #[.string p.name, .int .i64 p.ver, .slice p.qA p.qs.length p.qc] 24) := ⟨_, rfl⟩
  rw [← hW0] at hb0 f0 f1 f2
  have HV := Lib.hid (refText_any W0 p (ProtAt.more (ProtAt.below h hb0) hb0.size) hwf)
  have HB := Lib.hid hb0
  clear h hb0
  go_enter Tryz.func21, Tryz.ntmps21
  go_wp2_with fail
  rw [← hW0]
  clear hW0
  refine HV.out.mono ?_
  rintro e W1 ⟨s, b, rfl, hf, hb1⟩
  have HB1 := Lib.hid (HB.out.trans (hb1.mono HB.out.size))
  clear hb1 HV f0 f1 f2
  rcases hf with ⟨ok, hs, rfl⟩ | ⟨no, hs, rfl⟩
  · have HOK := Lib.hid ok
    have HLN := Lib.hid (text_len ok)
    obtain ⟨l, hl⟩ : ∃ l, l = textP p := ⟨_, rfl⟩
    rw [← hl] at HLN hs
    subst hs
    have HL := Lib.hid hl
    have hcv := Lib.run_convert_string_bytes (P := Tryz.prog) W1 9 59 5 (bs l) (u := .string) Tryz.underlying9 Tryz.underlying59 Tryz.underlying5
    have HS := Lib.hid (of_any (some ⟨W1.heap.size, 0, none⟩) l (grownCap W1 (bs l).size 0 5) (Lib.bytesWorld W1 5 (bs l)) (W1.heap.size + 1) (conv_sl W1 l) (by have := HLN.out; omega))
    rw [← bs_size l] at HS
    have HBW := Lib.hid (Lib.bytesWorld_below W1 5 (bs l))
    clear ok hl
    go_wp2_with fail
    refine HS.out.mono ?_
    rintro e w' ⟨rfl, n, rfl⟩
    go_wp2_with fail
    go_ret
    exact ⟨by rw [chk_ok HOK.out, ← HL.out]; rfl, below_drewN' (HB1.out.trans (HBW.out.mono HB1.out.size)) n⟩
  · subst hs
    have HNO := Lib.hid no
    clear no
    go_wp2_with fail
    go_ret
    exact ⟨by rw [chk_bad HNO.out]; rfl, HB1.out⟩
end Go.Proofs.YtbbklideciappaaGreatDoor
