/-
  samaritanlaw06.ConfigFormat returns true for every input, and the arguments read afterwards as before.
  Conditions: those of the given row (its list of package variables), tied to the program's text by the given tie; the card speaks of the pruned copy of the project that the seat was translated from.
-/
import Derived.Test.YtloacoalmfaceaaGreatDoorCards
import Derived.Test.YtloacoalmfaceaaGreatDoorTie
import Derived.Test.YtloacoalmfaceaaGreatDoorOpn6
import Derived.Test.YtloacoalmfaceaaGreatDoorTxw6
import Derived.Test.YtloacoalmfaceaaGreatDoorLift
import Derived.Test.YtloacoalmfaceaaGreatDoorLaid6
import Derived.OpenShut
import Derived.Deep.RegionHeld3
import Derived.Deep.MidRow
import Derived.Deep.DeepHandedRow
namespace Go.Proofs.YtloacoalmfaceaaGreatDoor.l06Format
open Go.ChangeShapes Go.WideShapes Go.ChangeAt Go.RowKit Go.Maps
open Go.ChangeMaps (open_string shut_string)
open Go.Shelf

set_option maxRecDepth 100000 in
set_option maxHeartbeats 4000000 in
theorem walk (w : World) (c : Cfg) (hc : CfgArg w c) (hr : Rdy w) :
    Calls Tryz.prog 4 #[.agg c.cells.toArray] w fun e w' => e = .returned (.bool true) ∧ Below w.heap.size w w' := by
  have hi := cfgIn_new w c 27
  have hb0 : Below w.heap.size w (w.alloc (.cells c.cells.toArray 27)) := (Below.refl _ _).alloc (Nat.le_refl _) _
  have hz0 : w.heap.size < (w.alloc (.cells c.cells.toArray 27)).heap.size := by simp
  have hrow := new_obj w (.cells c.cells.toArray 27)
  obtain ⟨W0, hW0⟩ : ∃ W0, W0 = w.alloc (.cells c.cells.toArray 27) := ⟨_, rfl⟩
  have hlen : c.cells.length = 15 := by simp [Cfg.cells, hc.at_.ten]
  have hsl : (Tryz.prog.info? 27).map (·.size) = some c.cells.length := by
    have k15 : (Tryz.prog.info? 27).map (·.size) = some 15 := by kernel_rfl
    rw [hlen, k15]
  have hsz : (Tryz.prog.info? 27).map (·.size) = some c.cells.toArray.size := by rw [List.size_toArray]; exact hsl
  rw [← hW0] at hi hb0 hz0 hrow
  have HR := Lib.hid hr
  have HC := Lib.hid hc
  have H0 := Lib.hid (And.intro hb0 (And.intro hi (And.intro ((hc.at_.below hb0).more hb0.size) (And.intro hz0 hrow))))
  have HG := Lib.hid (great_any W0 c ((hc.at_.below hb0).more hb0.size) (by have := hc.pl; omega))
  have HSL := Lib.hid hsl
  obtain ⟨X, hX⟩ : ∃ X, X = c.cells.toArray := ⟨_, rfl⟩
  have HX := Lib.hid hX
  rw [← hX] at hrow hsz HG hW0 ⊢
  clear hi hb0 hz0 hX hlen hsl hr hc
  go_enter Tryz.func4, Tryz.ntmps4
  go_wp2_with (refine wpList_load_row rfl 27 (.tmp 1) rfl w.heap.size rfl 27 X (0, 0) _ (by rw [← hW0]; exact hrow) Tryz.underlying27 rfl hsz ?_)
  rw [← hW0]
  clear hW0
  refine HG.out.mono ?_
  rintro e W1 ⟨bg, rfl, hsh, hb1⟩
  have HB1 := Lib.hid (And.intro (H0.out.1.trans (hb1.mono H0.out.1.size)) (And.intro ((H0.out.2.2.1.below hb1).more hb1.size) (And.intro (H0.out.2.1.below hb1 H0.out.2.2.2.1) (Nat.lt_of_lt_of_le H0.out.2.2.2.1 hb1.size))))
  have hrow1 := (hb1.block w.heap.size H0.out.2.2.2.1).trans H0.out.2.2.2.2
  rw [← HX.out] at hrow1
  have HSH := Lib.hid hsh
  clear hb1 hsh hrow HG
  cases bg
  rotate_left
  · go_wp2_with fail
    refine (awake_any W1 (HR.out.below HB1.out.1)).mono ?_
    rintro e W2 ⟨rfl, hb2⟩
    have HB2 := Lib.hid (HB1.out.1.trans (hb2.mono HB1.out.1.size))
    clear hb2
    go_wp2_with fail
    go_ret
    exact ⟨rfl, HB2.out⟩
  have HSZ := Lib.hid (HC.out.sz (HSH.out rfl))
  have ROW : Hid (∀ W, Below W1.heap.size W1 W → W.heap[w.heap.size]? = some (.cells X 27 (0, 0))) := Lib.hid (fun W h => (h.block _ HB1.out.2.2.2).trans hrow1)
  have CA : Hid (∀ W, Below W1.heap.size W1 W → CfgAt W W.heap.size c) := Lib.hid (fun W h => (HB1.out.2.1.below h).more h.size)
  have RD : Hid (∀ W, Below W1.heap.size W1 W → Rdy W) := Lib.hid (fun W hW => HR.out.below (HB1.out.1.trans (hW.mono HB1.out.1.size)))
  have HZ1 := Lib.hid HB1.out.2.2.2
  have RI := Lib.hid (fun W (h : Below W1.heap.size W1 W) => right_any W c (CA.out W h) HSZ.out (fun p hp => (HC.out.wf p hp).code))
  rw [← HX.out] at RI
  by_cases hp : problem c = 0
  · rw [hp] at RI
    have HFM := Lib.hid (format_fine W1 c (CA.out W1 (Below.refl _ _)) HSZ.out (HSH.out rfl) (RD.out W1 (Below.refl _ _)) hp)
    have PA : Hid (∀ W, Rdy W → Calls Tryz.prog 13 #[.string (bs (textC c))] W fun e w' => ∃ d, e = .returned (.tuple #[.agg d.cells.toArray, .int .i64 0, .int .i64 0]) ∧ SameCfg d c ∧ CfgAt w' w'.heap.size d ∧ CfgSz d ∧ Below W.heap.size W w') := Lib.hid (fun W hW => parse_text c (fine_of hp) (HSH.out rfl) HC.out.at_.ten W hW)
    have TX := Lib.hid (fun W (h : Below W1.heap.size W1 W) => refText_any W c (CA.out W h) (fine_of hp) (HSH.out rfl))
    rw [← HX.out] at HFM TX
    obtain ⟨T, hT⟩ : ∃ T, T = bs (textC c) := ⟨_, rfl⟩
    rw [← hT] at HFM PA TX
    have SMX : Hid (∀ W d, Below W1.heap.size W1 W → CfgAt W W.heap.size d → CfgSz d → SameCfg d c → Calls Tryz.prog 15 #[.agg d.cells.toArray, .agg X] W fun e w' => e = .returned (.bool true) ∧ Below W.heap.size W w') := Lib.hid (fun W d h hd hz hs => by
      have := sameC_any W d c hd (CA.out W h) hz HSZ.out
      rw [tb_true hs, ← HX.out] at this
      exact this)
    clear hp hT
    go_wp2_with (refine wpList_load_row rfl 27 (.tmp 1) rfl w.heap.size rfl 27 X (0, 0) _ hrow1 Tryz.underlying27 rfl hsz ?_)
    refine HFM.out.mono ?_
    rintro e W4 ⟨rfl, hb4⟩
    have row4 := ROW.out W4 hb4
    have H4 := Lib.hid hb4
    clear hb4 HFM hrow1
    go_wp2_with (refine wpList_load_row rfl 27 (.tmp 1) rfl w.heap.size rfl 27 X (0, 0) _ row4 Tryz.underlying27 rfl hsz ?_)
    refine (RI.out W4 H4.out).mono ?_
    rintro e W5 ⟨rfl, hb5⟩
    have H5 := Lib.hid (H4.out.trans (hb5.mono H4.out.size))
    clear hb5 row4 RI
    go_wp2_with fail
    refine (PA.out W5 (RD.out W5 H5.out)).mono ?_
    rintro e W7 ⟨d, rfl, hsm, hda, hdz, hb7⟩
    have H7 := Lib.hid (H5.out.trans (hb7.mono H5.out.size))
    have hys : d.cells.toArray.size = 15 := by simp [Cfg.cells, hda.ten]
    have hsy : (Tryz.prog.info? 27).map (·.size) = some d.cells.toArray.size := by
      have k15 : (Tryz.prog.info? 27).map (·.size) = some 15 := by kernel_rfl
      rw [hys, k15]
    have hony := cells_one d
    have hr0 := new_obj W7 (.cells #[.int .i64 0, .slice none 0 0, .slice none 0 0, .slice none 0 0, .slice none 0 0, .int .i64 0, .int .i64 0, .int .i64 0, .int .i64 0, .int .i64 0, .int .i64 0, .int .i64 0, .int .i64 0, .int .i64 0, .int .i64 0] 27)
    have hbz : Below W7.heap.size W7 (W7.alloc (.cells #[.int .i64 0, .slice none 0 0, .slice none 0 0, .slice none 0 0, .slice none 0 0, .int .i64 0, .int .i64 0, .int .i64 0, .int .i64 0, .int .i64 0, .int .i64 0, .int .i64 0, .int .i64 0, .int .i64 0, .int .i64 0] 27)) := (Below.refl _ _).alloc (Nat.le_refl _) _
    have hb8 : Below W7.heap.size W7 ((W7.alloc (.cells #[.int .i64 0, .slice none 0 0, .slice none 0 0, .slice none 0 0, .slice none 0 0, .int .i64 0, .int .i64 0, .int .i64 0, .int .i64 0, .int .i64 0, .int .i64 0, .int .i64 0, .int .i64 0, .int .i64 0, .int .i64 0] 27)).setRow W7.heap.size d.cells.toArray) := below_row hbz _
    have hry := setRow_heap _ _ _ d.cells.toArray _ _ hr0
    have hzy : W7.heap.size < ((W7.alloc (.cells #[.int .i64 0, .slice none 0 0, .slice none 0 0, .slice none 0 0, .slice none 0 0, .int .i64 0, .int .i64 0, .int .i64 0, .int .i64 0, .int .i64 0, .int .i64 0, .int .i64 0, .int .i64 0, .int .i64 0, .int .i64 0] 27)).setRow W7.heap.size d.cells.toArray).heap.size := by simp
    have hda9 := (hda.below hb8).more hb8.size
    obtain ⟨Y, hY⟩ : ∃ Y, Y = d.cells.toArray := ⟨_, rfl⟩
    rw [← hY] at hys hsy hony hry hzy hb8 hda9
    obtain ⟨W9, hW9⟩ : ∃ W, W = (W7.alloc (.cells #[.int .i64 0, .slice none 0 0, .slice none 0 0, .slice none 0 0, .slice none 0 0, .int .i64 0, .int .i64 0, .int .i64 0, .int .i64 0, .int .i64 0, .int .i64 0, .int .i64 0, .int .i64 0, .int .i64 0, .int .i64 0] 27)).setRow W7.heap.size Y := ⟨_, rfl⟩
    rw [← hW9] at hry hzy hb8 hda9
    have H9 := Lib.hid (H7.out.trans (hb8.mono H7.out.size))
    have hrx := ROW.out W9 H9.out
    have SM : Hid (∀ W, Below W9.heap.size W9 W → Calls Tryz.prog 15 #[.agg Y, .agg X] W fun e w' => e = .returned (.bool true) ∧ Below W.heap.size W w') := Lib.hid (fun W h => by
      rw [hY]
      exact SMX.out W d (H9.out.trans (h.mono H9.out.size)) ((hda9.below h).more h.size) hdz hsm)
    have HZY := Lib.hid (And.intro hzy hry)
    rw [← hY]
    clear hsm hda hda9 hdz hb7 hbz hb8 hY SMX hry hzy
    go_wp2_with (first | (refine wpList_store_row rfl 27 (.tmp 5) (.tmp 31) rfl W7.heap.size Y rfl rfl 27 _ hr0 hsy hys.symm hony ?_) | (refine wpList_load_row rfl 27 (.tmp 1) rfl w.heap.size rfl 27 X (0, 0) _ (by rw [← hW9]; exact hrx) Tryz.underlying27 rfl hsz ?_))
    rw [← hW9]
    clear hW9 hrx hr0 hys hony
    refine (TX.out W9 H9.out).mono ?_
    rintro e W10 ⟨rfl, hb10⟩
    have hry := (hb10.block W7.heap.size HZY.out.1).trans HZY.out.2
    have H10 := Lib.hid (H9.out.trans (hb10.mono H9.out.size))
    have hrx := ROW.out W10 H10.out
    have S10 := Lib.hid (SM.out W10 hb10)
    clear hb10 TX SM HZY
    go_wp2_with (first | (refine wpList_load_row_g (by rfl) 27 (.tmp 5) rfl W7.heap.size rfl 27 Y (0, 0) _ hry Tryz.underlying27 rfl hsy ?_) | (refine wpList_load_row_g (by rfl) 27 (.tmp 1) rfl w.heap.size rfl 27 X (0, 0) _ hrx Tryz.underlying27 rfl hsz ?_))
    refine S10.out.mono ?_
    rintro e W11 ⟨rfl, hb11⟩
    have H11 := Lib.hid (H10.out.trans (hb11.mono H10.out.size))
    clear hb11 S10 hry hrx
    go_wp2_with fail
    refine (awake_any W11 (RD.out W11 H11.out)).mono ?_
    rintro e W12 ⟨rfl, hb12⟩
    have H12 := Lib.hid (HB1.out.1.trans ((H11.out.trans (hb12.mono H11.out.size)).mono HB1.out.1.size))
    clear hb12
    go_wp2_with fail
    go_ret
    exact ⟨rfl, H12.out⟩
  · have HFM := Lib.hid (format_bad W1 c (CA.out W1 (Below.refl _ _)) HSZ.out hp)
    rw [← HX.out] at HFM
    obtain ⟨P, hP⟩ : ∃ P, P = problem c := ⟨_, rfl⟩
    rw [← hP] at RI hp
    have eP : ((P : Int) != 0) = true := by simp; omega
    clear hp hP
    go_wp2_with (refine wpList_load_row rfl 27 (.tmp 1) rfl w.heap.size rfl 27 X (0, 0) _ hrow1 Tryz.underlying27 rfl hsz ?_)
    refine HFM.out.mono ?_
    rintro e W4 ⟨rfl, hb4⟩
    have row4 := ROW.out W4 hb4
    have H4 := Lib.hid hb4
    clear hb4 HFM hrow1
    go_wp2_with (refine wpList_load_row rfl 27 (.tmp 1) rfl w.heap.size rfl 27 X (0, 0) _ row4 Tryz.underlying27 rfl hsz ?_)
    refine (RI.out W4 H4.out).mono ?_
    rintro e W5 ⟨rfl, hb5⟩
    have H5 := Lib.hid (H4.out.trans (hb5.mono H4.out.size))
    clear hb5 row4 RI
    go_wp2_with fail
    refine (awake_any W5 (RD.out W5 H5.out)).mono ?_
    rintro e W11 ⟨rfl, hb11⟩
    have H11 := Lib.hid (HB1.out.1.trans ((H5.out.trans (hb11.mono H5.out.size)).mono HB1.out.1.size))
    clear hb11
    go_wp2_with fail
    go_ret
    exact ⟨rfl, H11.out⟩

theorem laid_met (os : Os) : laidMet Tryz.prog Rows.configFormatRow.laid ((World.laidAll Tryz.prog os Rows.configFormatRow.laid).forCall (fun _ _ => 0) ⟨#[], #[.agg #[.int .i64 0, .slice none 0 0, .slice none 0 0, .slice none 0 0, .slice none 0 0, .int .i64 0, .int .i64 0, .int .i64 0, .int .i64 0, .int .i64 0, .int .i64 0, .int .i64 0, .int .i64 0, .int .i64 0, .int .i64 0]], []⟩).memory :=
  laidMet_laidAll _ (laid_fits os) (laid_ifaces os)
theorem reads (os : Os) {H : Type} (enc : TypeId × Value → H) : ∃ places, DataW.whole enc Tryz.prog ((World.laidAll Tryz.prog os Rows.configFormatRow.laid).forCall (fun _ _ => 0) ⟨#[], #[.agg #[.int .i64 0, .slice none 0 0, .slice none 0 0, .slice none 0 0, .slice none 0 0, .int .i64 0, .int .i64 0, .int .i64 0, .int .i64 0, .int .i64 0, .int .i64 0, .int .i64 0, .int .i64 0, .int .i64 0, .int .i64 0]], []⟩).memory Tryz.f4.params.toList Rows.configFormatSpec.vars false #[Value.agg #[.int .i64 0, .slice none 0 0, .slice none 0 0, .slice none 0 0, .slice none 0 0, .int .i64 0, .int .i64 0, .int .i64 0, .int .i64 0, .int .i64 0, .int .i64 0, .int .i64 0, .int .i64 0, .int .i64 0, .int .i64 0]].toList 8 = some ([.agg [.lit (.int .i64 0), .nil, .nil, .nil, .nil, .lit (.int .i64 0), .lit (.int .i64 0), .lit (.int .i64 0), .lit (.int .i64 0), .lit (.int .i64 0), .lit (.int .i64 0), .lit (.int .i64 0), .lit (.int .i64 0), .lit (.int .i64 0), .lit (.int .i64 0)]], [], places) :=
  ⟨[], by kernel_rfl⟩

set_option maxRecDepth 100000 in
theorem lifted (os : Os) (started : os.Started) (H : Type) (enc : TypeId × Value → H) (F : Stop.Interp) :
    ReturnsInHanded {} Tryz.checked os 4 .any ((OpenSpec.ofChange Rows.configFormatSpec).preRow enc Tryz.prog Tryz.f4 Rows.configFormatRow.domain false Rows.configFormatRow.laid) (((OpenSpec.ofChange Rows.configFormatSpec).at F).post enc Tryz.prog Tryz.f4 false true false false) := by
  obtain ⟨places, hx⟩ := reads os enc
  refine returnsInHanded_of_row (C := Tryz.checked) (s := OpenSpec.ofChange Rows.configFormatSpec) own started (by kernel_rfl) Tryz.func4
    (witness_row_atRef (enc := enc) (C := Tryz.checked) false (World.laidAll Tryz.prog os Rows.configFormatRow.laid) #[.agg #[.int .i64 0, .slice none 0 0, .slice none 0 0, .slice none 0 0, .slice none 0 0, .int .i64 0, .int .i64 0, .int .i64 0, .int .i64 0, .int .i64 0, .int .i64 0, .int .i64 0, .int .i64 0, .int .i64 0, .int .i64 0]] (World.laidAll_os _ _ _) (laid_vars os _) (laid_rest os _) (by kernel_rfl)
      (OpenSpec.preRow_of_cond 8 hx (by kernel_rfl) (fun k hk => by cases hk) (by kernel_rfl) (laid_met os))) ?_
  intro W base args ds gs before hval0 hW _ _ _ hLH hSh _
  have hL0 := hLH
  rw [MakeChecks.laidMetH_plain _ _ _ (by kernel_rfl)] at hL0
  have hL : laidMet Tryz.prog Rows.configFormatRow.laid W := hL0
  clear hL0
  have hr : Rdy W := rdy_of hL.tail.tail hL.tail.tail.tail.tail.tail hL.tail.tail.tail.tail hL.tail.tail.tail.tail.tail.tail hSh
  have hval : ∀ (j : Nat) t v, Tryz.f4.params[j]? = some t → args[j]? = some v → Value.okWide Tryz.prog W .any base t v := hval0
  have hW' := hW
  obtain ⟨p, q, hA0, hV, rfl, hfz, hnd⟩ := hW
  have hA : DataW.TrodAll enc Tryz.prog W 0 (fun _ => true) true Tryz.f4.params.toList args.toList ds p := hA0
  rw [Tryz.params4] at hA hval
  obtain ⟨v0, vs0, d0, ds0, p0, q0, hargs, rfl, rfl, h0, r0⟩ := trodAll_cons hA
  obtain ⟨rfl, rfl, rfl⟩ := trodAll_nil r0
  obtain rfl : args = #[v0] := by cases args; simp_all
  obtain ⟨rfl, rfl⟩ := trodVars_none hV
  obtain ⟨c0, rfl, hc0⟩ := open_cfg (hval 0 27 v0 rfl rfl) h0
  clear hA0 hval0
  refine (walk W c0 hc0 hr).mono fun e W' ⟨he, hb⟩ => ?_
  subst he
  exact ⟨_, rfl, law_post laidOut (by kernel_rfl) rfl Tryz.underlying4 rfl hW' rfl rfl rfl hb⟩

theorem said : Rows.ConfigFormatSaid :=
  OpenClaim.holds_of_cond 4 Tryz.f4 rfl rfl rfl rfl rfl rfl rfl ⟨rfl, rfl, rfl, rfl, rfl⟩ rfl rfl rfl rfl rfl (by kernel_rfl) Tryz.func4 (by kernel_rfl)
    (of_decide_eq_true (by kernel_rfl)) (by unfold Func.isWrapper; first | (rw [if_pos (by decide +kernel)]; kernel_rfl) | (rw [if_neg (by decide +kernel)]; exact ⟨rfl, rfl⟩))
    (fun os started H enc _ F => by rw [OpenClaim.pre_eq_preRow]; exact lifted os started H enc F)

/-- No parameter wants a stand-in; the program's looks are those of the card. -/
theorem plain (f : FuncId) (fn : Func) (hf : Tryz.pinned.checked.prog.funcNamed "samaritan/samaritanlaw06.ConfigFormat" = some f) (hfn : Tryz.pinned.checked.prog.funcs[f]? = some fn) :
    true = Tryz.pinned.checked.prog.looks [] ∧ ∀ (j : Nat) t, fn.params[j]? = some t → Tryz.pinned.checked.prog.wantsStandIn t = false := by
  obtain rfl : f = 4 := Option.some.inj ((show Tryz.prog.funcNamed "samaritan/samaritanlaw06.ConfigFormat" = some 4 by kernel_rfl).symm.trans hf) |>.symm
  obtain rfl : fn = Tryz.f4 := (Option.some.inj (Tryz.func4.symm.trans hfn)).symm
  refine ⟨by kernel_rfl, fun j t ht => ?_⟩
  rw [Tryz.params4] at ht
  have hm := Array.mem_of_getElem? ht
  have hall : (#[27] : Array TypeId).toList.all (fun t => Tryz.prog.wantsStandIn t == false) = true := by kernel_rfl
  have := List.all_eq_true.1 hall t (by simpa using hm)
  exact beq_iff_eq.1 this

theorem card : Rows.ConfigFormatCardSaid :=
  Claim7.holds_tied_plain_at .later [] _ _ _ _ said (fun _ h => by cases h) (by kernel_rfl) (fun _ h => by cases h) configFormat_row_tie rfl ⟨rfl, rfl⟩ (by kernel_rfl) rfl plain (by kernel_rfl)
#print axioms card
end Go.Proofs.YtloacoalmfaceaaGreatDoor.l06Format
