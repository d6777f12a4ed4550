/-
  samaritanlaw12.ProtocolParses returns true for every input, and the arguments read afterwards as before.
  Conditions: those of the given row (its list of package variables), tied to the program's text by the given tie; the card speaks of the pruned copy of the project that the seat was translated from.
-/
import Derived.Test.YtbbklideciappaaGreatDoorCards
import Derived.Test.YtbbklideciappaaGreatDoorTie
import Derived.Test.YtbbklideciappaaGreatDoorPqIW
import Derived.Test.YtbbklideciappaaGreatDoorPqJE
import Derived.Test.YtbbklideciappaaGreatDoorPqPb
import Derived.Test.YtbbklideciappaaGreatDoorLift
import Derived.Test.YtbbklideciappaaGreatDoorPqLd
import Derived.OpenShut
import Derived.Deep.RegionHeld3
import Derived.Deep.DeepHandedRow
namespace Go.Proofs.YtbbklideciappaaGreatDoor.l12Parses
open Go.ChangeShapes Go.WideShapes Go.ChangeAt Go.RowKit Go.Maps
open Go.ChangeMaps (open_string shut_string)

set_option maxRecDepth 100000 in
set_option maxHeartbeats 8000000 in
theorem walk (w : World) (s : ByteArray) (_ws : s.size ≤ maxLen) (hr : Ready w) :
    Calls Tryz.prog 4 #[.string s] w fun e w' => e = .returned (.bool true) ∧ Below w.heap.size w w' := by
  obtain ⟨LF, tF, hL, h10, ht⟩ := lines_of s.data.toList
  have HR := Lib.hid hr
  clear hr
  go_enter Tryz.func4, Tryz.ntmps4
  go_wp2_with fail
  refine (awake_any w HR.out).mono ?_
  rintro e W1 ⟨rfl, hb1⟩
  have HB1 := Lib.hid hb1
  clear hb1
  by_cases hsz : 4000 < s.size
  · have d1 : decide ((4000 : Int) < (s.size : Int)) = true := decide_eq_true (by omega)
    clear hL h10 ht hsz
    go_wp2_with fail
    go_ret
    exact ⟨rfl, HB1.out⟩
  have d1 : decide ((4000 : Int) < (s.size : Int)) = false := decide_eq_false (by omega)
  have HP1 := Lib.hid (parse_any s (by omega) LF tF hL h10 ht W1 (HR.out.below HB1.out))
  have HP2 := Lib.hid (fun W => rparse_any s (by omega) LF tF hL h10 ht W)
  clear hL h10 ht hsz
  go_wp2_with fail
  refine HP1.out.mono ?_
  rintro e W2 ⟨p, a, b, rfl, hps, hat, hcn, hb2⟩
  unfold protV
  have hb3 := below_new W2 (.cells #[.string p.name, .int .i64 p.ver, .slice p.qA p.qs.length p.qc] 24)
  have hz3 := lt_new W2 (.cells #[.string p.name, .int .i64 p.ver, .slice p.qA p.qs.length p.qc] 24)
  obtain ⟨j0, j1, j2⟩ := fresh3 W2 (.string p.name) (.int .i64 p.ver) (.slice p.qA p.qs.length p.qc) 24
  obtain ⟨W3, hW3⟩ : ∃ W3, W3 = W2.alloc (.cells #[.string p.name, .int .i64 p.ver, .slice p.qA p.qs.length p.qc] 24) := ⟨_, rfl⟩
  rw [← hW3] at hb3 hz3 j0 j1 j2
  have HB3 := Lib.hid (show Below w.heap.size w W3 from (HB1.out.trans (hb2.mono HB1.out.size)).trans (hb3.mono ((HB1.out.trans (hb2.mono HB1.out.size))).size))
  have HP := Lib.hid (And.intro ((ProtAt.below hat hb3).more hb3.size) (And.intro hcn (And.intro hz3 (And.intro j0 (And.intro j1 j2)))))
  clear hat hcn hb2 hb3 j0 j1 j2 hz3
  go_wp2_with fail
  rw [← hW3]
  clear hW3
  refine (HP2.out _).mono ?_
  rintro e W4 ⟨u, a', b', rfl, hpu, hau, hcu, hb4⟩
  unfold protV
  obtain ⟨hcon, rfl, rfl⟩ := hps.uni hpu
  have hb5 := below_new W4 (.cells #[.string u.name, .int .i64 u.ver, .slice u.qA u.qs.length u.qc] 24)
  have hz5 := lt_new W4 (.cells #[.string u.name, .int .i64 u.ver, .slice u.qA u.qs.length u.qc] 24)
  obtain ⟨k0, k1, k2⟩ := fresh3 W4 (.string u.name) (.int .i64 u.ver) (.slice u.qA u.qs.length u.qc) 24
  obtain ⟨W5, hW5⟩ : ∃ W5, W5 = W4.alloc (.cells #[.string u.name, .int .i64 u.ver, .slice u.qA u.qs.length u.qc] 24) := ⟨_, rfl⟩
  rw [← hW5] at hb5 hz5 k0 k1 k2
  have HF4 := Lib.hid (show W4.cell? ⟨W2.heap.size, 0, none⟩ = some (.string p.name) ∧ W4.cell? ⟨W2.heap.size, 1, none⟩ = some (.int .i64 p.ver) ∧ W4.cell? ⟨W2.heap.size, 2, none⟩ = some (.slice p.qA p.qs.length p.qc) from ⟨(hb4.cell (p := ⟨W2.heap.size, 0, none⟩) HP.out.2.2.1).trans HP.out.2.2.2.1, (hb4.cell (p := ⟨W2.heap.size, 1, none⟩) HP.out.2.2.1).trans HP.out.2.2.2.2.1, (hb4.cell (p := ⟨W2.heap.size, 2, none⟩) HP.out.2.2.1).trans HP.out.2.2.2.2.2⟩)
  have HZ4 := Lib.hid (show W2.heap.size < W4.heap.size from Nat.lt_of_lt_of_le HP.out.2.2.1 hb4.size)
  have hb35 : Below W3.heap.size W3 W5 := hb4.trans (hb5.mono hb4.size)
  have HB5 := Lib.hid (HB3.out.trans (hb35.mono HB3.out.size))
  have HU := Lib.hid (And.intro ((ProtAt.below hau hb5).more hb5.size) (And.intro hcon (And.intro hz5 (And.intro k0 (And.intro k1 k2)))))
  have HPW := Lib.hid (And.intro ((ProtAt.below HP.out.1 hb35).more hb35.size) (And.intro ((hb35.cell (p := ⟨W2.heap.size, 0, none⟩) HP.out.2.2.1).trans HP.out.2.2.2.1) (And.intro ((hb35.cell (p := ⟨W2.heap.size, 1, none⟩) HP.out.2.2.1).trans HP.out.2.2.2.2.1) ((hb35.cell (p := ⟨W2.heap.size, 2, none⟩) HP.out.2.2.1).trans HP.out.2.2.2.2.2))))
  have HZ := Lib.hid (show W2.heap.size < W5.heap.size from Nat.lt_of_lt_of_le HP.out.2.2.1 hb35.size)
  have CELLS2 : Hid (∀ W, Below W5.heap.size W5 W → (W.cell? ⟨W2.heap.size, 0, none⟩ = some (.string p.name) ∧ W.cell? ⟨W2.heap.size, 1, none⟩ = some (.int .i64 p.ver) ∧ W.cell? ⟨W2.heap.size, 2, none⟩ = some (.slice p.qA p.qs.length p.qc)) ∧ W.cell? ⟨W4.heap.size, 0, none⟩ = some (.string u.name) ∧ W.cell? ⟨W4.heap.size, 1, none⟩ = some (.int .i64 u.ver) ∧ W.cell? ⟨W4.heap.size, 2, none⟩ = some (.slice u.qA u.qs.length u.qc)) := Lib.hid (fun W h => by
    obtain ⟨_, _, h1, h2, h3, h4⟩ := HU.out
    obtain ⟨_, i2, i3, i4⟩ := HPW.out
    exact ⟨⟨(h.cell (p := ⟨W2.heap.size, 0, none⟩) HZ.out).trans i2, (h.cell (p := ⟨W2.heap.size, 1, none⟩) HZ.out).trans i3, (h.cell (p := ⟨W2.heap.size, 2, none⟩) HZ.out).trans i4⟩, (h.cell (p := ⟨W4.heap.size, 0, none⟩) h1).trans h2, (h.cell (p := ⟨W4.heap.size, 1, none⟩) h1).trans h3, (h.cell (p := ⟨W4.heap.size, 2, none⟩) h1).trans h4⟩)
  have SM := Lib.hid (fun W (h : Below W5.heap.size W5 W) => same_any W p u ((ProtAt.below HPW.out.1 h).more h.size) ((ProtAt.below HU.out.1 h).more h.size) (by have := HP.out.2.1.1; omega) (fun x hx => by have := HP.out.2.1.2 x hx; omega))
  rw [tb_true HU.out.2.1] at SM
  have e2 : (b == b) = true := by simp
  have e3 : (a == a) = true := by simp
  clear hps hpu hau hcu hb4 hcon hb5 hb35 hz5 k0 k1 k2 HP1 HP2
  obtain ⟨f0, f1, f2⟩ := HF4.out
  have hz4 : W2.heap.size < W4.heap.size := HZ4.out
  have hne4 : ¬ W2.heap.size = W4.heap.size := by omega
  go_wp2_with fail
  rw [← hW5]
  clear hW5
  refine (SM.out _ (Below.refl _ _)).mono ?_
  rintro e W6 ⟨rfl, hb6⟩
  go_wp2_with fail
  go_ret
  exact ⟨rfl, HB5.out.trans (hb6.mono HB5.out.size)⟩

theorem laid_met (os : Os) : laidMet Tryz.prog Rows.protocolParsesRow.laid ((World.laidAll Tryz.prog os Rows.protocolParsesRow.laid).forCall (fun _ _ => 0) ⟨#[], #[.string ⟨#[]⟩], []⟩).memory :=
  laidMet_laidAll _ (laid_fits os) (laid_ifaces os)
theorem reads (os : Os) {H : Type} (enc : TypeId × Value → H) : ∃ places, DataW.whole enc Tryz.prog ((World.laidAll Tryz.prog os Rows.protocolParsesRow.laid).forCall (fun _ _ => 0) ⟨#[], #[.string ⟨#[]⟩], []⟩).memory Tryz.f4.params.toList Rows.protocolParsesSpec.vars false #[Value.string ⟨#[]⟩].toList 8 = some ([.lit (.string [])], [], places) :=
  ⟨[], by kernel_rfl⟩

set_option maxRecDepth 100000 in
theorem lifted (os : Os) (started : os.Started) (H : Type) (enc : TypeId × Value → H) (F : Stop.Interp) :
    ReturnsInHanded {} Tryz.checked os 4 .any ((OpenSpec.ofChange Rows.protocolParsesSpec).preRow enc Tryz.prog Tryz.f4 Rows.protocolParsesRow.domain false Rows.protocolParsesRow.laid) (((OpenSpec.ofChange Rows.protocolParsesSpec).at F).post enc Tryz.prog Tryz.f4 false true false false) := by
  obtain ⟨places, hx⟩ := reads os enc
  refine returnsInHanded_of_row (C := Tryz.checked) (s := OpenSpec.ofChange Rows.protocolParsesSpec) own started (by kernel_rfl) Tryz.func4
    (witness_row_atRef (enc := enc) (C := Tryz.checked) false (World.laidAll Tryz.prog os Rows.protocolParsesRow.laid) #[.string ⟨#[]⟩] (World.laidAll_os _ _ _) (laid_vars os _) (laid_rest os _) (by kernel_rfl)
      (OpenSpec.preRow_of_cond 8 hx (by kernel_rfl) (fun k hk => by cases hk) (by kernel_rfl) (laid_met os))) ?_
  intro W base args ds gs before hval0 hW _ _ _ hLH hSh _
  have hL0 := hLH
  rw [MakeChecks.laidMetH_plain _ _ _ (by kernel_rfl)] at hL0
  have hL : laidMet Tryz.prog Rows.protocolParsesRow.laid W := hL0
  clear hL0
  have hr : Ready W := ready_of hL.tail.tail hL.tail.tail.tail.tail.tail hL.tail.tail.tail.tail hSh
  have hval : ∀ (j : Nat) t v, Tryz.f4.params[j]? = some t → args[j]? = some v → Value.okWide Tryz.prog W .any base t v := hval0
  have hW' := hW
  obtain ⟨p, q, hA0, hV, rfl, hfz, hnd⟩ := hW
  have hA : DataW.TrodAll enc Tryz.prog W 0 (fun _ => true) true Tryz.f4.params.toList args.toList ds p := hA0
  rw [Tryz.params4] at hA hval
  obtain ⟨v0, vs0, d0, ds0, p0, q0, hargs, rfl, rfl, h0, r0⟩ := trodAll_cons hA
  obtain ⟨rfl, rfl, rfl⟩ := trodAll_nil r0
  obtain rfl : args = #[v0] := by cases args; simp_all
  obtain ⟨rfl, rfl⟩ := trodVars_none hV
  obtain ⟨s0, rfl, rfl, rfl, w0⟩ := open_string Tryz.underlying9 (hval 0 9 v0 rfl rfl) h0
  clear hA0 hval0
  refine (walk W s0 w0 hr).mono fun e W' ⟨he, hb⟩ => ?_
  subst he
  exact ⟨_, rfl, law_post laidOut (by kernel_rfl) rfl Tryz.underlying4 rfl hW' rfl rfl rfl hb⟩

theorem said : Rows.ProtocolParsesSaid :=
  OpenClaim.holds_of_cond 4 Tryz.f4 rfl rfl rfl rfl rfl rfl rfl ⟨rfl, rfl, rfl, rfl, rfl⟩ rfl rfl rfl rfl rfl (by kernel_rfl) Tryz.func4 (by kernel_rfl)
    (of_decide_eq_true (by kernel_rfl)) (by unfold Func.isWrapper; first | (rw [if_pos (by decide +kernel)]; kernel_rfl) | (rw [if_neg (by decide +kernel)]; exact ⟨rfl, rfl⟩))
    (fun os started H enc _ F => by rw [OpenClaim.pre_eq_preRow]; exact lifted os started H enc F)

/-- No parameter wants a stand-in; the program's looks are those of the card. -/
theorem plain (f : FuncId) (fn : Func) (hf : Tryz.pinned.checked.prog.funcNamed "samaritan/samaritanlaw12.ProtocolParses" = some f) (hfn : Tryz.pinned.checked.prog.funcs[f]? = some fn) :
    true = Tryz.pinned.checked.prog.looks [] ∧ ∀ (j : Nat) t, fn.params[j]? = some t → Tryz.pinned.checked.prog.wantsStandIn t = false := by
  obtain rfl : f = 4 := Option.some.inj ((show Tryz.prog.funcNamed "samaritan/samaritanlaw12.ProtocolParses" = some 4 by kernel_rfl).symm.trans hf) |>.symm
  obtain rfl : fn = Tryz.f4 := (Option.some.inj (Tryz.func4.symm.trans hfn)).symm
  refine ⟨by kernel_rfl, fun j t ht => ?_⟩
  rw [Tryz.params4] at ht
  have hm := Array.mem_of_getElem? ht
  have hall : (#[9] : Array TypeId).toList.all (fun t => Tryz.prog.wantsStandIn t == false) = true := by kernel_rfl
  have := List.all_eq_true.1 hall t (by simpa using hm)
  exact beq_iff_eq.1 this

theorem card : Rows.ProtocolParsesCardSaid :=
  Claim7.holds_tied_plain_at .later [] _ _ _ _ said (fun _ h => by cases h) (by kernel_rfl) (fun _ h => by cases h) protocolParses_row_tie rfl ⟨rfl, rfl⟩ (by kernel_rfl) rfl plain (by kernel_rfl)
#print axioms card
end Go.Proofs.YtbbklideciappaaGreatDoor.l12Parses
