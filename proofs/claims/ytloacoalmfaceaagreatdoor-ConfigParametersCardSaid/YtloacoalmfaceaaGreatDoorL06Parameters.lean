/-
  samaritanlaw06.ConfigParameters returns true for every input, and the arguments read afterwards as before.
  Conditions: those of the given row (its list of package variables), tied to the program's text by the given tie; the card speaks of the pruned copy of the project that the seat was translated from.
-/
import Derived.Test.YtloacoalmfaceaaGreatDoorCards
import Derived.Test.YtloacoalmfaceaaGreatDoorTie
import Derived.Test.YtloacoalmfaceaaGreatDoorPrm6
import Derived.Test.YtloacoalmfaceaaGreatDoorLift
import Derived.Test.YtloacoalmfaceaaGreatDoorLaid6
import Derived.OpenShut
import Derived.Deep.RegionHeld3
import Derived.Deep.MidRow
import Derived.Deep.DeepHandedRow
namespace Go.Proofs.YtloacoalmfaceaaGreatDoor.l06Parameters
open Go.ChangeShapes Go.WideShapes Go.ChangeAt Go.RowKit Go.Maps
open Go.ChangeMaps (open_string shut_string)
open Go.Shelf

set_option maxRecDepth 100000 in
set_option maxHeartbeats 4000000 in
theorem walk (w : World) (a : Int) (wa : (Lit.int .u8 a).wf = true) (n : Int) (_wn : (Lit.int .i64 n).wf = true) (hr : Rdy w) :
    Calls Tryz.prog 5 #[.int .u8 a, .int .i64 n] w fun e w' => e = .returned (.bool true) ∧ Below w.heap.size w w' := by
  have hw8 : 0 ≤ a ∧ a ≤ 255 := by
    have h := wa
    simp [Lit.wf] at h
    have h1 : IntKind.u8.min = 0 := by decide
    have h2 : IntKind.u8.max = 255 := by decide
    omega
  obtain ⟨k, hk, hk10⟩ : ∃ k : Nat, a % 10 = (k : Int) ∧ k < 10 := ⟨(a % 10).toNat, by omega, by omega⟩
  have hkm : a.tmod 10 = (k : Int) := by rw [Int.tmod_eq_emod_of_nonneg hw8.1]; exact hk
  have hdc : defCfg.cells.toArray = #[.int .i64 0, .slice none 0 0, .slice none 0 0, .slice none 0 0, .slice none 0 0, .int .i64 2, .int .i64 10, .int .i64 12, .int .i64 20, .int .i64 30, .int .i64 4, .int .i64 10, .int .i64 50, .int .i64 1, .int .i64 8] := rfl
  have HD := Lib.hid (default_any w)
  rw [hdc] at HD
  have HR := Lib.hid hr
  have HK := Lib.hid hk10
  clear hdc hr wa hk
  go_enter Tryz.func5, Tryz.ntmps5
  go_wp2_with fail
  refine HD.out.mono ?_
  rintro e W1 ⟨rfl, hb1⟩
  have HB1 := Lib.hid hb1
  clear hb1 HD
  go_wp2_with fail
  obtain ⟨V1, hV1⟩ : ∃ V, V = (W1.alloc (.cells #[.int .i64 1, .slice (some ⟨W1.heap.size + 1, 0, none⟩) 1 1, .slice none 0 0, .slice none 0 0, .slice none 0 0, .int .i64 2, .int .i64 10, .int .i64 12, .int .i64 20, .int .i64 30, .int .i64 4, .int .i64 10, .int .i64 50, .int .i64 1, .int .i64 8] 27)).alloc (.cells #[.int .i64 0] 3) := ⟨_, rfl⟩
  have hbV : Below W1.heap.size W1 V1 := by rw [hV1]; exact ((Below.refl _ _).alloc (Nat.le_refl _) _).alloc (by simp) _
  have hcx : CfgAt V1 V1.heap.size (parX (W1.heap.size + 1) k n) := by
    refine ⟨?_, RecsAt.empty, RecsAt.empty, (fun i p hi => by simp [parX] at hi), by simp [parX, defPs]⟩
    rw [hV1]
    exact Sl.lit (W1.alloc (.cells #[.int .i64 1, .slice (some ⟨W1.heap.size + 1, 0, none⟩) 1 1, .slice none 0 0, .slice none 0 0, .slice none 0 0, .int .i64 2, .int .i64 10, .int .i64 12, .int .i64 20, .int .i64 30, .int .i64 4, .int .i64 10, .int .i64 50, .int .i64 1, .int .i64 8] 27)) [.int .i64 0] 3 (by simp)
  rw [← hV1]
  clear hV1
  refine (refSet_any (W1.heap.size + 1) k HK.out n V1).mono ?_
  rintro e W2 ⟨rfl, hb2⟩
  obtain ⟨x, hx⟩ : ∃ x, x = parX (W1.heap.size + 1) k n := ⟨_, rfl⟩
  rw [← hx] at hcx ⊢
  have HXX := Lib.hid hx
  have hrow0 := new_obj W2 (.cells #[.int .i64 0, .slice none 0 0, .slice none 0 0, .slice none 0 0, .slice none 0 0, .int .i64 0, .int .i64 0, .int .i64 0, .int .i64 0, .int .i64 0, .int .i64 0, .int .i64 0, .int .i64 0, .int .i64 0, .int .i64 0] 27)
  have hbz : Below W2.heap.size W2 (W2.alloc (.cells #[.int .i64 0, .slice none 0 0, .slice none 0 0, .slice none 0 0, .slice none 0 0, .int .i64 0, .int .i64 0, .int .i64 0, .int .i64 0, .int .i64 0, .int .i64 0, .int .i64 0, .int .i64 0, .int .i64 0, .int .i64 0] 27)) := (Below.refl _ _).alloc (Nat.le_refl _) _
  have hb3 : Below W2.heap.size W2 ((W2.alloc (.cells #[.int .i64 0, .slice none 0 0, .slice none 0 0, .slice none 0 0, .slice none 0 0, .int .i64 0, .int .i64 0, .int .i64 0, .int .i64 0, .int .i64 0, .int .i64 0, .int .i64 0, .int .i64 0, .int .i64 0, .int .i64 0] 27)).setRow W2.heap.size x.cells.toArray) := below_row hbz _
  have hrow := setRow_heap _ _ _ x.cells.toArray _ _ hrow0
  have hz3 : W2.heap.size < ((W2.alloc (.cells #[.int .i64 0, .slice none 0 0, .slice none 0 0, .slice none 0 0, .slice none 0 0, .int .i64 0, .int .i64 0, .int .i64 0, .int .i64 0, .int .i64 0, .int .i64 0, .int .i64 0, .int .i64 0, .int .i64 0, .int .i64 0] 27)).setRow W2.heap.size x.cells.toArray).heap.size := by simp
  have hxs : x.cells.toArray.size = 15 := by simp [Cfg.cells, hcx.ten]
  have hsz : (Tryz.prog.info? 27).map (·.size) = some x.cells.toArray.size := by rw [hxs]; exact cfg_size15
  have hone := cells_one x
  have hpx : Px k n x := by rw [hx]; exact px_self _ _ _
  have hxsz : CfgSz x := by
    refine ⟨?_, ?_, ?_, ?_, ?_, ?_⟩
    · rw [hpx.ds]; decide
    · rw [hpx.es]; decide
    · rw [hpx.us]; decide
    · rw [hpx.pl]; decide
    · rw [hpx.pl]; exact Nat.zero_le _
    · intro p hp; rw [hpx.pl] at hp; cases hp
  obtain ⟨W3, hW3⟩ : ∃ W, W = (W2.alloc (.cells #[.int .i64 0, .slice none 0 0, .slice none 0 0, .slice none 0 0, .slice none 0 0, .int .i64 0, .int .i64 0, .int .i64 0, .int .i64 0, .int .i64 0, .int .i64 0, .int .i64 0, .int .i64 0, .int .i64 0, .int .i64 0] 27)).setRow W2.heap.size x.cells.toArray := ⟨_, rfl⟩
  have hW3' := hW3
  obtain ⟨X, hX⟩ : ∃ X, X = x.cells.toArray := ⟨_, rfl⟩
  rw [← hW3] at hb3 hrow hz3
  rw [← hX] at hrow hxs hsz hone hW3'
  have HB3 := Lib.hid (show Below w.heap.size w W3 from HB1.out.trans ((hbV.trans ((hb2.trans (hb3.mono hb2.size)).mono hbV.size)).mono HB1.out.size))
  have CA : Hid (∀ W, Below W3.heap.size W3 W → CfgAt W W.heap.size x) := Lib.hid (fun W hW => by
    have hb : Below V1.heap.size V1 W := hb2.trans ((hb3.trans (hW.mono hb3.size)).mono hb2.size)
    exact (hcx.below hb).more hb.size)
  have HXS := Lib.hid (And.intro hxs (And.intro hsz hone))
  have HPX := Lib.hid (And.intro hpx hxsz)
  have HZ3 := Lib.hid hz3
  have HROW := Lib.hid hrow
  have RD : Hid (∀ W, Below W3.heap.size W3 W → Rdy W) := Lib.hid (fun W hW => HR.out.below (HB3.out.trans (hW.mono HB3.out.size)))
  have RI := Lib.hid (fun W (h : Below W3.heap.size W3 W) => right_any W x (CA.out W h) hxsz (fun p hp => by rw [hpx.pl] at hp; cases hp))
  have VA := Lib.hid (fun W (h : Below W3.heap.size W3 W) => validate_any W x (CA.out W h) hxsz)
  have ROW : Hid (∀ W, Below W3.heap.size W3 W → W.heap[W2.heap.size]? = some (.cells X 27 (0, 0))) := Lib.hid (fun W h => (h.block _ hz3).trans hrow)
  rw [← hX] at RI VA
  have HXD := Lib.hid hX
  rw [← hX]
  clear hcx hbV hb2 hb3 hbz hpx hxsz hx hz3 hX hW3
  go_wp2_with (first | (refine wpList_store_row rfl 27 (.tmp 6) (.tmp 22) rfl W2.heap.size X rfl rfl 27 _ hrow0 hsz hxs.symm hone ?_) | (refine wpList_load_row rfl 27 (.tmp 6) rfl W2.heap.size rfl 27 X (0, 0) _ (by rw [← hW3']; exact hrow) Tryz.underlying27 rfl hsz ?_))
  rw [← hW3']
  clear hW3' hrow hrow0
  by_cases hp : problem x = 0
  · have HP := Lib.hid hp
    rw [hp] at RI VA
    have HFM := Lib.hid (format_fine W3 x (CA.out W3 (Below.refl _ _)) HPX.out.2 HPX.out.1.short.1 (RD.out W3 (Below.refl _ _)) hp)
    rw [← HXD.out] at HFM
    have PA : Hid (∀ W, Rdy W → Calls Tryz.prog 13 #[.string (bs (textC x))] W fun e w' => ∃ c, e = .returned (.tuple #[.agg c.cells.toArray, .int .i64 0, .int .i64 0]) ∧ SameCfg c x ∧ CfgAt w' w'.heap.size c ∧ CfgSz c ∧ Below W.heap.size W w') := Lib.hid (fun W hW => by
      have := parse_par (W1.heap.size + 1) HK.out n (by rw [← HXX.out]; exact hp) W hW
      rw [← HXX.out] at this
      exact this)
    obtain ⟨T, hT⟩ : ∃ T, T = bs (textC x) := ⟨_, rfl⟩
    rw [← hT] at HFM PA
    clear hp hT
    refine HFM.out.mono ?_
    rintro e W4 ⟨rfl, hb4⟩
    have row4 := ROW.out W4 hb4
    have H4 := Lib.hid hb4
    clear hb4 HFM
    go_wp2_with (refine wpList_load_row rfl 27 (.tmp 6) rfl W2.heap.size rfl 27 X (0, 0) _ row4 Tryz.underlying27 rfl hsz ?_)
    refine (RI.out W4 H4.out).mono ?_
    rintro e W5 ⟨rfl, hb5⟩
    have H5 := Lib.hid (H4.out.trans (hb5.mono H4.out.size))
    have row5 := ROW.out W5 H5.out
    clear hb5 row4
    go_wp2_with (refine wpList_load_row rfl 27 (.tmp 6) rfl W2.heap.size rfl 27 X (0, 0) _ row5 Tryz.underlying27 rfl hsz ?_)
    refine (VA.out W5 H5.out).mono ?_
    rintro e W6 ⟨rfl, hb6⟩
    have H6 := Lib.hid (H5.out.trans (hb6.mono H5.out.size))
    clear hb6 row5
    go_wp2_with fail
    refine (PA.out W6 (RD.out W6 H6.out)).mono ?_
    rintro e W7 ⟨c, rfl, hsm, hca, hcz, hb7⟩
    have H7 := Lib.hid (H6.out.trans (hb7.mono H6.out.size))
    have hys : c.cells.toArray.size = 15 := by simp [Cfg.cells, hca.ten]
    have hsy : (Tryz.prog.info? 27).map (·.size) = some c.cells.toArray.size := by rw [hys]; exact cfg_size15
    have hony := cells_one c
    have hr0 := new_obj W7 (.cells #[.int .i64 0, .slice none 0 0, .slice none 0 0, .slice none 0 0, .slice none 0 0, .int .i64 0, .int .i64 0, .int .i64 0, .int .i64 0, .int .i64 0, .int .i64 0, .int .i64 0, .int .i64 0, .int .i64 0, .int .i64 0] 27)
    have hbz : Below W7.heap.size W7 (W7.alloc (.cells #[.int .i64 0, .slice none 0 0, .slice none 0 0, .slice none 0 0, .slice none 0 0, .int .i64 0, .int .i64 0, .int .i64 0, .int .i64 0, .int .i64 0, .int .i64 0, .int .i64 0, .int .i64 0, .int .i64 0, .int .i64 0] 27)) := (Below.refl _ _).alloc (Nat.le_refl _) _
    have hb8 : Below W7.heap.size W7 ((W7.alloc (.cells #[.int .i64 0, .slice none 0 0, .slice none 0 0, .slice none 0 0, .slice none 0 0, .int .i64 0, .int .i64 0, .int .i64 0, .int .i64 0, .int .i64 0, .int .i64 0, .int .i64 0, .int .i64 0, .int .i64 0, .int .i64 0] 27)).setRow W7.heap.size c.cells.toArray) := below_row hbz _
    have hry := setRow_heap _ _ _ c.cells.toArray _ _ hr0
    have hb9 : Below W3.heap.size W3 ((W7.alloc (.cells #[.int .i64 0, .slice none 0 0, .slice none 0 0, .slice none 0 0, .slice none 0 0, .int .i64 0, .int .i64 0, .int .i64 0, .int .i64 0, .int .i64 0, .int .i64 0, .int .i64 0, .int .i64 0, .int .i64 0, .int .i64 0] 27)).setRow W7.heap.size c.cells.toArray) := H7.out.trans (hb8.mono H7.out.size)
    have hrx := ROW.out _ hb9
    have SM := Lib.hid (sameC_any _ c x ((hca.below hb8).more hb8.size) (CA.out _ hb9) hcz HPX.out.2)
    rw [tb_true hsm, ← HXD.out] at SM
    obtain ⟨Y, hY⟩ : ∃ Y, Y = c.cells.toArray := ⟨_, rfl⟩
    rw [← hY] at hys hsy hony hry SM hrx
    rw [← hY]
    have H9 : Hid (Below W3.heap.size W3 ((W7.alloc (.cells #[.int .i64 0, .slice none 0 0, .slice none 0 0, .slice none 0 0, .slice none 0 0, .int .i64 0, .int .i64 0, .int .i64 0, .int .i64 0, .int .i64 0, .int .i64 0, .int .i64 0, .int .i64 0, .int .i64 0, .int .i64 0] 27)).setRow W7.heap.size Y)) := Lib.hid (by rw [hY]; exact hb9)
    clear hsm hca hcz hb7 hbz hb8 hY hb9
    go_wp2_with (first | (refine wpList_store_row rfl 27 (.tmp 10) (.tmp 45) rfl W7.heap.size Y rfl rfl 27 _ hr0 hsy hys.symm hony ?_) | (refine wpList_load_row_g (by rfl) 27 (.tmp 10) rfl W7.heap.size rfl 27 Y (0, 0) _ hry Tryz.underlying27 rfl hsy ?_) | (refine wpList_load_row_g (by rfl) 27 (.tmp 6) rfl W2.heap.size rfl 27 X (0, 0) _ hrx Tryz.underlying27 rfl hsz ?_))
    refine SM.out.mono ?_
    rintro e W10 ⟨rfl, hb10⟩
    have H10 := Lib.hid (H9.out.trans (hb10.mono H9.out.size))
    clear hb10 SM hry hrx hr0
    go_wp2_with fail
    refine (awake_any W10 (RD.out W10 H10.out)).mono ?_
    rintro e W11 ⟨rfl, hb11⟩
    have H11 := Lib.hid (HB3.out.trans ((H10.out.trans (hb11.mono H10.out.size)).mono HB3.out.size))
    clear hb11
    go_wp2_with fail
    go_ret
    exact ⟨rfl, H11.out⟩
  · have HFM := Lib.hid (format_bad W3 x (CA.out W3 (Below.refl _ _)) HPX.out.2 hp)
    rw [← HXD.out] at HFM
    obtain ⟨P, hP⟩ : ∃ P, P = problem x := ⟨_, rfl⟩
    rw [← hP] at RI VA hp
    have eP : ((P : Int) == 0) = false := by simp; omega
    clear hp hP
    refine HFM.out.mono ?_
    rintro e W4 ⟨rfl, hb4⟩
    have row4 := ROW.out W4 hb4
    have H4 := Lib.hid hb4
    clear hb4 HFM
    go_wp2_with (refine wpList_load_row rfl 27 (.tmp 6) rfl W2.heap.size rfl 27 X (0, 0) _ row4 Tryz.underlying27 rfl hsz ?_)
    refine (RI.out W4 H4.out).mono ?_
    rintro e W5 ⟨rfl, hb5⟩
    have H5 := Lib.hid (H4.out.trans (hb5.mono H4.out.size))
    have row5 := ROW.out W5 H5.out
    clear hb5 row4
    go_wp2_with (refine wpList_load_row rfl 27 (.tmp 6) rfl W2.heap.size rfl 27 X (0, 0) _ row5 Tryz.underlying27 rfl hsz ?_)
    refine (VA.out W5 H5.out).mono ?_
    rintro e W6 ⟨rfl, hb6⟩
    have H6 := Lib.hid (H5.out.trans (hb6.mono H5.out.size))
    clear hb6 row5
    go_wp2_with fail
    refine (parse_empty W6 (RD.out W6 H6.out)).mono ?_
    rintro e W7 ⟨rfl, hb7⟩
    have H7 := Lib.hid (H6.out.trans ((hb7.alloc hb7.size (.cells #[.int .i64 0, .slice none 0 0, .slice none 0 0, .slice none 0 0, .slice none 0 0, .int .i64 0, .int .i64 0, .int .i64 0, .int .i64 0, .int .i64 0, .int .i64 0, .int .i64 0, .int .i64 0, .int .i64 0, .int .i64 0] 27)).mono H6.out.size))
    clear hb7
    go_wp2_with fail
    refine (awake_any _ (RD.out _ H7.out)).mono ?_
    rintro e W11 ⟨rfl, hb11⟩
    have H11 := Lib.hid (HB3.out.trans ((H7.out.trans (hb11.mono H7.out.size)).mono HB3.out.size))
    clear hb11
    go_wp2_with fail
    go_ret
    exact ⟨rfl, H11.out⟩

theorem laid_met (os : Os) : laidMet Tryz.prog Rows.configParametersRow.laid ((World.laidAll Tryz.prog os Rows.configParametersRow.laid).forCall (fun _ _ => 0) ⟨#[], #[.int .u8 0, .int .i64 0], []⟩).memory :=
  laidMet_laidAll _ (laid_fits os) (laid_ifaces os)
theorem reads (os : Os) {H : Type} (enc : TypeId × Value → H) : ∃ places, DataW.whole enc Tryz.prog ((World.laidAll Tryz.prog os Rows.configParametersRow.laid).forCall (fun _ _ => 0) ⟨#[], #[.int .u8 0, .int .i64 0], []⟩).memory Tryz.f5.params.toList Rows.configParametersSpec.vars false #[Value.int .u8 0, .int .i64 0].toList 8 = some ([.lit (.int .u8 0), .lit (.int .i64 0)], [], places) :=
  ⟨[], by kernel_rfl⟩

set_option maxRecDepth 100000 in
theorem lifted (os : Os) (started : os.Started) (H : Type) (enc : TypeId × Value → H) (F : Stop.Interp) :
    ReturnsInHanded {} Tryz.checked os 5 .any ((OpenSpec.ofChange Rows.configParametersSpec).preRow enc Tryz.prog Tryz.f5 Rows.configParametersRow.domain false Rows.configParametersRow.laid) (((OpenSpec.ofChange Rows.configParametersSpec).at F).post enc Tryz.prog Tryz.f5 false true false false) := by
  obtain ⟨places, hx⟩ := reads os enc
  refine returnsInHanded_of_row (C := Tryz.checked) (s := OpenSpec.ofChange Rows.configParametersSpec) own started (by kernel_rfl) Tryz.func5
    (witness_row_atRef (enc := enc) (C := Tryz.checked) false (World.laidAll Tryz.prog os Rows.configParametersRow.laid) #[.int .u8 0, .int .i64 0] (World.laidAll_os _ _ _) (laid_vars os _) (laid_rest os _) (by kernel_rfl)
      (OpenSpec.preRow_of_cond 8 hx (by kernel_rfl) (fun k hk => by cases hk) (by kernel_rfl) (laid_met os))) ?_
  intro W base args ds gs before hval0 hW _ _ _ hLH hSh _
  have hL0 := hLH
  rw [MakeChecks.laidMetH_plain _ _ _ (by kernel_rfl)] at hL0
  have hL : laidMet Tryz.prog Rows.configParametersRow.laid W := hL0
  clear hL0
  have hr : Rdy W := rdy_of hL.tail.tail hL.tail.tail.tail.tail.tail hL.tail.tail.tail.tail hL.tail.tail.tail.tail.tail.tail hSh
  have hval : ∀ (j : Nat) t v, Tryz.f5.params[j]? = some t → args[j]? = some v → Value.okWide Tryz.prog W .any base t v := hval0
  have hW' := hW
  obtain ⟨p, q, hA0, hV, rfl, hfz, hnd⟩ := hW
  have hA : DataW.TrodAll enc Tryz.prog W 0 (fun _ => true) true Tryz.f5.params.toList args.toList ds p := hA0
  rw [Tryz.params5] at hA hval
  obtain ⟨v0, vs0, d0, ds0, p0, q0, hargs, rfl, rfl, h0, r0⟩ := trodAll_cons hA
  obtain ⟨v1, vs1, d1, ds1, p1, q1, rfl, rfl, rfl, h1, r1⟩ := trodAll_cons r0
  obtain ⟨rfl, rfl, rfl⟩ := trodAll_nil r1
  obtain rfl : args = #[v0, v1] := by cases args; simp_all
  obtain ⟨rfl, rfl⟩ := trodVars_none hV
  obtain ⟨a0, rfl, rfl, rfl, w0⟩ := open_int Tryz.underlying5 (hval 0 5 v0 rfl rfl) h0
  obtain ⟨a1, rfl, rfl, rfl, w1⟩ := open_int Tryz.underlying2 (hval 1 2 v1 rfl rfl) h1
  clear hA0 hval0
  refine (walk W a0 w0 a1 w1 hr).mono fun e W' ⟨he, hb⟩ => ?_
  subst he
  exact ⟨_, rfl, law_post laidOut (by kernel_rfl) rfl Tryz.underlying4 rfl hW' rfl rfl rfl hb⟩

theorem said : Rows.ConfigParametersSaid :=
  OpenClaim.holds_of_cond 5 Tryz.f5 rfl rfl rfl rfl rfl rfl rfl ⟨rfl, rfl, rfl, rfl, rfl⟩ rfl rfl rfl rfl rfl (by kernel_rfl) Tryz.func5 (by kernel_rfl)
    (of_decide_eq_true (by kernel_rfl)) (by unfold Func.isWrapper; first | (rw [if_pos (by decide +kernel)]; kernel_rfl) | (rw [if_neg (by decide +kernel)]; exact ⟨rfl, rfl⟩))
    (fun os started H enc _ F => by rw [OpenClaim.pre_eq_preRow]; exact lifted os started H enc F)

/-- No parameter wants a stand-in; the program's looks are those of the card. -/
theorem plain (f : FuncId) (fn : Func) (hf : Tryz.pinned.checked.prog.funcNamed "samaritan/samaritanlaw06.ConfigParameters" = some f) (hfn : Tryz.pinned.checked.prog.funcs[f]? = some fn) :
    true = Tryz.pinned.checked.prog.looks [] ∧ ∀ (j : Nat) t, fn.params[j]? = some t → Tryz.pinned.checked.prog.wantsStandIn t = false := by
  obtain rfl : f = 5 := Option.some.inj ((show Tryz.prog.funcNamed "samaritan/samaritanlaw06.ConfigParameters" = some 5 by kernel_rfl).symm.trans hf) |>.symm
  obtain rfl : fn = Tryz.f5 := (Option.some.inj (Tryz.func5.symm.trans hfn)).symm
  refine ⟨by kernel_rfl, fun j t ht => ?_⟩
  rw [Tryz.params5] at ht
  have hm := Array.mem_of_getElem? ht
  have hall : (#[5, 2] : Array TypeId).toList.all (fun t => Tryz.prog.wantsStandIn t == false) = true := by kernel_rfl
  have := List.all_eq_true.1 hall t (by simpa using hm)
  exact beq_iff_eq.1 this

theorem card : Rows.ConfigParametersCardSaid :=
  Claim7.holds_tied_plain_at .later [] _ _ _ _ said (fun _ h => by cases h) (by kernel_rfl) (fun _ h => by cases h) configParameters_row_tie rfl ⟨rfl, rfl⟩ (by kernel_rfl) rfl plain (by kernel_rfl)
#print axioms card
end Go.Proofs.YtloacoalmfaceaaGreatDoor.l06Parameters
