/-
  samaritanlaw12.ProtocolFormats returns true for every input, and the arguments read afterwards as before.
  Conditions: those of the given row (its list of package variables), tied to the program's text by the given tie; the card speaks of the pruned copy of the project that the seat was translated from.
-/
import Derived.Test.YtbbklideciappaaGreatDoorCards
import Derived.Test.YtbbklideciappaaGreatDoorTie
import Derived.Test.YtbbklideciappaaGreatDoorPqO
import Derived.Test.YtbbklideciappaaGreatDoorPqIW
import Derived.Test.YtbbklideciappaaGreatDoorPqS
import Derived.Test.YtbbklideciappaaGreatDoorPqSl
import Derived.Test.YtbbklideciappaaGreatDoorLift
import Derived.Test.YtbbklideciappaaGreatDoorPqLd
import Derived.OpenShut
import Derived.Deep.RegionHeld3
import Derived.Deep.DeepHandedRow
namespace Go.Proofs.YtbbklideciappaaGreatDoor.l12Formats
open Go.ChangeShapes Go.WideShapes Go.ChangeAt Go.RowKit Go.Maps
open Go.ChangeMaps (open_string shut_string)

theorem fmt_uni {p : Prot} {s t : ByteArray} {a b : Int} (h : FmtOf p s a) (k : FmtOf p t b) : s = t ∧ a = b := by
  rcases h with ⟨h1, h2, h3⟩ | ⟨h1, h2, h3⟩
  · rcases k with ⟨k1, k2, k3⟩ | ⟨k1, k2, k3⟩
    · exact ⟨h2.trans k2.symm, h3.trans k3.symm⟩
    · exact absurd h1 k1
  · rcases k with ⟨k1, k2, k3⟩ | ⟨k1, k2, k3⟩
    · exact absurd k1 h1
    · exact ⟨h2.trans k2.symm, h3.trans k3.symm⟩
set_option maxRecDepth 100000 in
set_option maxHeartbeats 8000000 in
theorem walk (w : World) (p : Prot) (hp : ProtArg w p) (hr : Ready w) :
    Calls Tryz.prog 6 #[.agg #[.string p.name, .int .i64 p.ver, .slice p.qA p.qs.length p.qc]] w fun e w' => e = .returned (.bool true) ∧ Below w.heap.size w w' := by
  have hb0 := below_new w (.cells #[.string p.name, .int .i64 p.ver, .slice p.qA p.qs.length p.qc] 24)
  have hz0 := lt_new w (.cells #[.string p.name, .int .i64 p.ver, .slice p.qA p.qs.length p.qc] 24)
  obtain ⟨f0, f1, f2⟩ := fresh3 w (.string p.name) (.int .i64 p.ver) (.slice p.qA p.qs.length p.qc) 24
  obtain ⟨W0, hW0⟩ : ∃ W0, W0 = w.alloc (.cells #[.string p.name, .int .i64 p.ver, .slice p.qA p.qs.length p.qc] 24) := ⟨_, rfl⟩
  rw [← hW0] at hb0 f0 f1 f2 hz0
  have HAT := Lib.hid ((hp.at_.below hb0).more hb0.size)
  have HWF := Lib.hid hp.wf
  have HR := Lib.hid hr
  have HB0 := Lib.hid hb0
  clear hp hb0 hr
  go_enter Tryz.func6, Tryz.ntmps6
  go_wp2_with fail
  rw [← hW0]
  clear hW0
  refine (awake_any W0 (HR.out.below HB0.out)).mono ?_
  rintro e W1 ⟨rfl, hb1⟩
  have HB1 := Lib.hid hb1
  replace f0 := (hb1.cell (p := ⟨w.heap.size, 0, none⟩) hz0).trans f0
  replace f1 := (hb1.cell (p := ⟨w.heap.size, 1, none⟩) hz0).trans f1
  replace f2 := (hb1.cell (p := ⟨w.heap.size, 2, none⟩) hz0).trans f2
  have hz1 := Nat.lt_of_lt_of_le hz0 hb1.size
  clear hb1
  go_wp2_with fail
  refine (small_any W1 p ((HAT.out.below HB1.out).more HB1.out.size) HWF.out).mono ?_
  rintro e W2 ⟨⟨bg, hbg, rfl⟩, hb2⟩
  have HB2 := Lib.hid (HB1.out.trans (hb2.mono HB1.out.size))
  have HB02 := Lib.hid (HB0.out.trans (HB2.out.mono HB0.out.size))
  have HSM := Lib.hid hbg
  replace f0 := (hb2.cell (p := ⟨w.heap.size, 0, none⟩) hz1).trans f0
  replace f1 := (hb2.cell (p := ⟨w.heap.size, 1, none⟩) hz1).trans f1
  replace f2 := (hb2.cell (p := ⟨w.heap.size, 2, none⟩) hz1).trans f2
  have hz2 := Nat.lt_of_lt_of_le hz1 hb2.size
  clear hb2 hbg hz1
  cases bg
  · go_wp2_with fail
    go_ret
    exact ⟨rfl, HB02.out⟩
  have HCN := Lib.hid (show CntLe p 1000000000 from by have h1 := HSM.out rfl; exact ⟨by have := h1.1; omega, fun q hq => by have := h1.2 q hq; omega⟩)
  have HPA : Hid (∀ W, Below W2.heap.size W2 W → ProtAt W W.heap.size p ∧ Ready W ∧ Below w.heap.size w W) := Lib.hid (fun W hW => by
    have h1 : Below W0.heap.size W0 W := HB2.out.trans (hW.mono HB2.out.size)
    exact ⟨(HAT.out.below h1).more h1.size, HR.out.below (HB0.out.trans (h1.mono HB0.out.size)), HB0.out.trans (h1.mono HB0.out.size)⟩)
  have HF := Lib.hid (And.intro hz2 (And.intro f0 (And.intro f1 f2)))
  have CELLS : Hid (∀ W, Below W2.heap.size W2 W → W.cell? ⟨w.heap.size, 0, none⟩ = some (.string p.name) ∧ W.cell? ⟨w.heap.size, 1, none⟩ = some (.int .i64 p.ver) ∧ W.cell? ⟨w.heap.size, 2, none⟩ = some (.slice p.qA p.qs.length p.qc)) := Lib.hid (fun W h => ⟨(h.cell (p := ⟨w.heap.size, 0, none⟩) HF.out.1).trans HF.out.2.1, (h.cell (p := ⟨w.heap.size, 1, none⟩) HF.out.1).trans HF.out.2.2.1, (h.cell (p := ⟨w.heap.size, 2, none⟩) HF.out.1).trans HF.out.2.2.2⟩)
  go_wp2_with fail
  refine (format_any W2 p (HPA.out W2 (Below.refl _ _)).1 (by have := HWF.out.len; omega) (HPA.out W2 (Below.refl _ _)).2.1).mono ?_
  rintro e W3 ⟨s, b, rfl, hf1, hb3⟩
  have HB3 := Lib.hid hb3
  have HF1 := Lib.hid hf1
  clear hb3 hf1 f0 f1 f2
  obtain ⟨f0, f1, f2⟩ := CELLS.out W3 HB3.out
  go_wp2_with fail
  refine (refText_any W3 p (HPA.out W3 HB3.out).1 HWF.out).mono ?_
  rintro e W4 ⟨t, c, rfl, hf2, hb4⟩
  obtain ⟨rfl, rfl⟩ := fmt_uni HF1.out hf2
  have HB4 := Lib.hid (HB3.out.trans (hb4.mono HB3.out.size))
  clear hb4 hf2 f0 f1 f2
  have e1 := str_eq (rfl : s = s)
  have e2 : (b == b) = true := by simp
  obtain ⟨C, hC⟩ : ∃ C, C = chk p := ⟨_, rfl⟩
  have e3 : ((C : Int) == (C : Int)) = true := by simp
  have H1 := Lib.hid (fun W (h : Below W2.heap.size W2 W) => checksum_any W p (HPA.out W h).1 (by have := HWF.out.len; omega) (HPA.out W h).2.1)
  have H2 := Lib.hid (fun W (h : Below W2.heap.size W2 W) => seal_any W p (HPA.out W h).1 HWF.out)
  rw [← hC] at H1 H2
  clear hC
  go_wp2_with fail
  refine wp_region_held_drew (S := fun Y => Below W2.heap.size W2 Y) (by kernel_rfl) (HB4.out.drew) (fun hHeld => ?_)
  refine wpAnyH_take (i := 0) (v := .string s) rfl (by kernel_rfl) (by kernel_rfl) (by kernel_rfl) (fun _ _ _ h => h) (Or.inl ⟨by rfl, ?_⟩) (by assumption) ?_
  · intro w hSw
    go_simp
  show wpAnyH _ _ _ _ _ _ _ (Act.put _ (some 22) _) _
  simp only [Act.put, List.setIfInBounds_toArray, List.set_cons_zero, List.set_cons_succ]
  refine wpAnyH_take (i := 1) (v := .string s) rfl (by kernel_rfl) (by kernel_rfl) (by kernel_rfl) (fun _ _ _ h => h) (Or.inl ⟨by rfl, ?_⟩) (by assumption) ?_
  · intro w hSw
    go_simp
  show wpAnyH _ _ _ _ _ _ _ (Act.put _ (some 23) _) _
  simp only [Act.put, List.setIfInBounds_toArray, List.set_cons_zero, List.set_cons_succ]
  refine wpAnyH_take (i := 2) (v := .bool true) rfl (by kernel_rfl) (by kernel_rfl) (by kernel_rfl) (fun _ _ _ h => h) (Or.inl ⟨by rfl, ?_⟩) (by assumption) ?_
  · intro w hSw
    go_simp
  show wpAnyH _ _ _ _ _ _ _ (Act.put _ (some 24) _) _
  simp only [Act.put, List.setIfInBounds_toArray, List.set_cons_zero, List.set_cons_succ]
  refine wpAnyH_take (i := 3) (v := .bool true) rfl (by kernel_rfl) (by kernel_rfl) (by kernel_rfl) (fun _ _ _ h => h) (Or.inl ⟨by rfl, ?_⟩) (by assumption) ?_
  · intro w hSw
    go_simp
  show wpAnyH _ _ _ _ _ _ _ (Act.put _ (some 25) _) _
  simp only [Act.put, List.setIfInBounds_toArray, List.set_cons_zero, List.set_cons_succ]
  refine wpAnyH_take (i := 4) (v := .int .i64 b) rfl (by kernel_rfl) (by kernel_rfl) (by kernel_rfl) (fun _ _ _ h => h) (Or.inl ⟨by rfl, ?_⟩) (by assumption) ?_
  · intro w hSw
    go_simp
  show wpAnyH _ _ _ _ _ _ _ (Act.put _ (some 26) _) _
  simp only [Act.put, List.setIfInBounds_toArray, List.set_cons_zero, List.set_cons_succ]
  refine wpAnyH_take (i := 5) (v := .int .i64 b) rfl (by kernel_rfl) (by kernel_rfl) (by kernel_rfl) (fun _ _ _ h => h) (Or.inl ⟨by rfl, ?_⟩) (by assumption) ?_
  · intro w hSw
    go_simp
  show wpAnyH _ _ _ _ _ _ _ (Act.put _ (some 27) _) _
  simp only [Act.put, List.setIfInBounds_toArray, List.set_cons_zero, List.set_cons_succ]
  refine wpAnyH_take (i := 6) (v := .bool true) rfl (by kernel_rfl) (by kernel_rfl) (by kernel_rfl) (fun _ _ _ h => h) (Or.inl ⟨by rfl, ?_⟩) (by assumption) ?_
  · intro w hSw
    go_simp
  show wpAnyH _ _ _ _ _ _ _ (Act.put _ (some 28) _) _
  simp only [Act.put, List.setIfInBounds_toArray, List.set_cons_zero, List.set_cons_succ]
  refine wpAnyH_take (i := 7) (v := .bool true) rfl (by kernel_rfl) (by kernel_rfl) (by kernel_rfl) (fun _ _ _ h => h) (Or.inl ⟨by rfl, ?_⟩) (by assumption) ?_
  · intro w hSw
    go_simp
  show wpAnyH _ _ _ _ _ _ _ (Act.put _ (some 29) _) _
  simp only [Act.put, List.setIfInBounds_toArray, List.set_cons_zero, List.set_cons_succ]
  refine wpAnyH_take (i := 8) (v := .bool true) rfl (by kernel_rfl) (by kernel_rfl) (by kernel_rfl) (fun _ _ _ h => h) (Or.inl ⟨by rfl, ?_⟩) (by assumption) ?_
  · intro w hSw
    go_simp
  show wpAnyH _ _ _ _ _ _ _ (Act.put _ (some 30) _) _
  simp only [Act.put, List.setIfInBounds_toArray, List.set_cons_zero, List.set_cons_succ]
  refine wpAnyH_take (i := 9) (v := .agg #[.string p.name, .int .i64 p.ver, .slice p.qA p.qs.length p.qc]) rfl (by kernel_rfl) (by kernel_rfl) (by kernel_rfl) (fun _ _ _ h => h) (Or.inl ⟨by rfl, ?_⟩) (by assumption) ?_
  · intro w hSw
    obtain ⟨s0, s1, s2⟩ := CELLS.out _ hSw
    go_simp
  show wpAnyH _ _ _ _ _ _ _ (Act.put _ (some 31) _) _
  simp only [Act.put, List.setIfInBounds_toArray, List.set_cons_zero, List.set_cons_succ]
  refine wpAnyH_take (i := 11) (v := .agg #[.string p.name, .int .i64 p.ver, .slice p.qA p.qs.length p.qc]) rfl (by kernel_rfl) (by kernel_rfl) (by kernel_rfl) (fun _ _ _ h => h) (Or.inl ⟨by rfl, ?_⟩) (by assumption) ?_
  · intro w hSw
    obtain ⟨s0, s1, s2⟩ := CELLS.out _ hSw
    go_simp
  show wpAnyH _ _ _ _ _ _ _ (Act.put _ (some 33) _) _
  simp only [Act.put, List.setIfInBounds_toArray, List.set_cons_zero, List.set_cons_succ]
  refine wpAnyH_ready (rs := [10]) (by kernel_rfl) (by simp) ?_
  refine AllReadyH.cons rfl (fun K hK => ?_) AllReadyH.nil
  go_simp
  refine (H1.out _ hHeld).mono ?_
  rintro e V1 ⟨rfl, hq1⟩
  go_simp
  refine hK.out _ _ (hHeld.trans (hq1.mono hHeld.size)) (fun hHeld => ?_)
  clear hK K
  refine wpAnyH_ready (rs := [12]) (by kernel_rfl) (by simp) ?_
  refine AllReadyH.cons rfl (fun K hK => ?_) AllReadyH.nil
  go_simp
  refine (H2.out _ hHeld).mono ?_
  rintro e V2 ⟨rfl, hq2⟩
  go_simp
  refine hK.out _ _ (hHeld.trans (hq2.mono hHeld.size)) (fun hHeld => ?_)
  clear hK K
  refine wpAnyH_take (i := 13) (v := .bool true) rfl (by kernel_rfl) (by kernel_rfl) (by kernel_rfl) (fun _ _ _ h => h) (Or.inl ⟨by rfl, ?_⟩) (by assumption) ?_
  · intro w hSw
    go_simp
  show wpAnyH _ _ _ _ _ _ _ (Act.put _ (some 35) _) _
  simp only [Act.put, List.setIfInBounds_toArray, List.set_cons_zero, List.set_cons_succ]
  refine wpAnyH_take (i := 14) (v := .bool true) rfl (by kernel_rfl) (by kernel_rfl) (by kernel_rfl) (fun _ _ _ h => h) (Or.inl ⟨by rfl, ?_⟩) (by assumption) ?_
  · intro w hSw
    go_simp
  show wpAnyH _ _ _ _ _ _ _ (Act.put _ (some 36) _) _
  simp only [Act.put, List.setIfInBounds_toArray, List.set_cons_zero, List.set_cons_succ]
  refine wpAnyH_take (i := 15) (v := .bool true) rfl (by kernel_rfl) (by kernel_rfl) (by kernel_rfl) (fun _ _ _ h => h) (Or.inl ⟨by rfl, ?_⟩) (by assumption) ?_
  · intro w hSw
    go_simp
  show wpAnyH _ _ _ _ _ _ _ (Act.put _ (some 2) _) _
  simp only [Act.put, List.setIfInBounds_toArray, List.set_cons_zero, List.set_cons_succ]
  refine wpAnyH_done (by kernel_rfl) ?_ _
  go_wp2_with fail
  go_ret
  exact ⟨rfl, (HPA.out _ hHeld).2.2⟩

theorem laid_met (os : Os) : laidMet Tryz.prog Rows.protocolFormatsRow.laid ((World.laidAll Tryz.prog os Rows.protocolFormatsRow.laid).forCall (fun _ _ => 0) ⟨#[], #[.agg #[.string ⟨#[]⟩, .int .i64 0, .slice none 0 0]], []⟩).memory :=
  laidMet_laidAll _ (laid_fits os) (laid_ifaces os)
theorem reads (os : Os) {H : Type} (enc : TypeId × Value → H) : ∃ places, DataW.whole enc Tryz.prog ((World.laidAll Tryz.prog os Rows.protocolFormatsRow.laid).forCall (fun _ _ => 0) ⟨#[], #[.agg #[.string ⟨#[]⟩, .int .i64 0, .slice none 0 0]], []⟩).memory Tryz.f6.params.toList Rows.protocolFormatsSpec.vars false #[Value.agg #[.string ⟨#[]⟩, .int .i64 0, .slice none 0 0]].toList 8 = some ([.agg [.lit (.string []), .lit (.int .i64 0), .nil]], [], places) :=
  ⟨[], by kernel_rfl⟩

set_option maxRecDepth 100000 in
theorem lifted (os : Os) (started : os.Started) (H : Type) (enc : TypeId × Value → H) (F : Stop.Interp) :
    ReturnsInHanded {} Tryz.checked os 6 .any ((OpenSpec.ofChange Rows.protocolFormatsSpec).preRow enc Tryz.prog Tryz.f6 Rows.protocolFormatsRow.domain false Rows.protocolFormatsRow.laid) (((OpenSpec.ofChange Rows.protocolFormatsSpec).at F).post enc Tryz.prog Tryz.f6 false true false false) := by
  obtain ⟨places, hx⟩ := reads os enc
  refine returnsInHanded_of_row (C := Tryz.checked) (s := OpenSpec.ofChange Rows.protocolFormatsSpec) own started (by kernel_rfl) Tryz.func6
    (witness_row_atRef (enc := enc) (C := Tryz.checked) false (World.laidAll Tryz.prog os Rows.protocolFormatsRow.laid) #[.agg #[.string ⟨#[]⟩, .int .i64 0, .slice none 0 0]] (World.laidAll_os _ _ _) (laid_vars os _) (laid_rest os _) (by kernel_rfl)
      (OpenSpec.preRow_of_cond 8 hx (by kernel_rfl) (fun k hk => by cases hk) (by kernel_rfl) (laid_met os))) ?_
  intro W base args ds gs before hval0 hW _ _ _ hLH hSh _
  have hL0 := hLH
  rw [MakeChecks.laidMetH_plain _ _ _ (by kernel_rfl)] at hL0
  have hL : laidMet Tryz.prog Rows.protocolFormatsRow.laid W := hL0
  clear hL0
  have hr : Ready W := ready_of hL.tail.tail hL.tail.tail.tail.tail.tail hL.tail.tail.tail.tail hSh
  have hval : ∀ (j : Nat) t v, Tryz.f6.params[j]? = some t → args[j]? = some v → Value.okWide Tryz.prog W .any base t v := hval0
  have hW' := hW
  obtain ⟨p, q, hA0, hV, rfl, hfz, hnd⟩ := hW
  have hA : DataW.TrodAll enc Tryz.prog W 0 (fun _ => true) true Tryz.f6.params.toList args.toList ds p := hA0
  rw [Tryz.params6] at hA hval
  obtain ⟨v0, vs0, d0, ds0, p0, q0, hargs, rfl, rfl, h0, r0⟩ := trodAll_cons hA
  obtain ⟨rfl, rfl, rfl⟩ := trodAll_nil r0
  obtain rfl : args = #[v0] := by cases args; simp_all
  obtain ⟨rfl, rfl⟩ := trodVars_none hV
  obtain ⟨p0, rfl, hp0⟩ := open_prot (hval 0 24 v0 rfl rfl) h0
  clear hA0 hval0
  refine (walk W p0 hp0 hr).mono fun e W' ⟨he, hb⟩ => ?_
  subst he
  exact ⟨_, rfl, law_post laidOut (by kernel_rfl) rfl Tryz.underlying4 rfl hW' rfl rfl rfl hb⟩

theorem said : Rows.ProtocolFormatsSaid :=
  OpenClaim.holds_of_cond 6 Tryz.f6 rfl rfl rfl rfl rfl rfl rfl ⟨rfl, rfl, rfl, rfl, rfl⟩ rfl rfl rfl rfl rfl (by kernel_rfl) Tryz.func6 (by kernel_rfl)
    (of_decide_eq_true (by kernel_rfl)) (by unfold Func.isWrapper; first | (rw [if_pos (by decide +kernel)]; kernel_rfl) | (rw [if_neg (by decide +kernel)]; exact ⟨rfl, rfl⟩))
    (fun os started H enc _ F => by rw [OpenClaim.pre_eq_preRow]; exact lifted os started H enc F)

/-- No parameter wants a stand-in; the program's looks are those of the card. -/
theorem plain (f : FuncId) (fn : Func) (hf : Tryz.pinned.checked.prog.funcNamed "samaritan/samaritanlaw12.ProtocolFormats" = some f) (hfn : Tryz.pinned.checked.prog.funcs[f]? = some fn) :
    true = Tryz.pinned.checked.prog.looks [] ∧ ∀ (j : Nat) t, fn.params[j]? = some t → Tryz.pinned.checked.prog.wantsStandIn t = false := by
  obtain rfl : f = 6 := Option.some.inj ((show Tryz.prog.funcNamed "samaritan/samaritanlaw12.ProtocolFormats" = some 6 by kernel_rfl).symm.trans hf) |>.symm
  obtain rfl : fn = Tryz.f6 := (Option.some.inj (Tryz.func6.symm.trans hfn)).symm
  refine ⟨by kernel_rfl, fun j t ht => ?_⟩
  rw [Tryz.params6] at ht
  have hm := Array.mem_of_getElem? ht
  have hall : (#[24] : Array TypeId).toList.all (fun t => Tryz.prog.wantsStandIn t == false) = true := by kernel_rfl
  have := List.all_eq_true.1 hall t (by simpa using hm)
  exact beq_iff_eq.1 this

theorem card : Rows.ProtocolFormatsCardSaid :=
  Claim7.holds_tied_plain_at .later [] _ _ _ _ said (fun _ h => by cases h) (by kernel_rfl) (fun _ h => by cases h) protocolFormats_row_tie rfl ⟨rfl, rfl⟩ (by kernel_rfl) rfl plain (by kernel_rfl)
#print axioms card
end Go.Proofs.YtbbklideciappaaGreatDoor.l12Formats
