/-
  samaritanlaw02.NodesetParse returns true for every input, and the arguments read afterwards as before.
  Conditions: those of the given row (its list of package variables), tied to the program's text by the given tie; the card speaks of the pruned copy of the project that the seat was translated from.
-/
import Derived.Test.YtalfjcamjdmdjaaDoorCards
import Derived.Test.YtalfjcamjdmdjaaDoorTie
import Derived.Test.YtalfjcamjdmdjaaDoorSetLaw
import Derived.Test.YtalfjcamjdmdjaaDoorLift
import Derived.Test.YtalfjcamjdmdjaaDoorLaidS
import Derived.OpenShut
import Derived.Deep.DeepHandedRow
namespace Go.Proofs.YtalfjcamjdmdjaaDoor.l02Parse
open Go.ChangeShapes Go.WideShapes Go.ChangeAt Go.RowKit Go.Maps
open Go.ChangeMaps (open_string shut_string)

set_option maxRecDepth 100000 in
set_option maxHeartbeats 4000000 in
theorem walk (w : World) (s : ByteArray) (_ws : s.size ≤ maxLen) (hr : Ready6 w) :
    Calls Tryd.prog 5 #[.string s] w fun e w' => e = .returned (.bool true) ∧ Below w.heap.size w w' := by
  have H1 := Lib.hid (And.intro (Below.refl w.heap.size w) (hr))
  clear hr
  by_cases hg : 60 < s.size
  · have dg : (60 : Int) < (s.size : Int) := by omega
    go_enter Tryd.func5, Tryd.ntmps5
    go_wp2_with fail
    refine (awake_any w H1.out.2).mono ?_
    rintro e w2 ⟨rfl, hb2⟩
    have H2 := Lib.hid (And.intro (H1.out.1.trans (hb2.mono H1.out.1.size)) (H1.out.2.below hb2))
    clear hb2
    go_wp2_with fail
    go_ret
    exact ⟨rfl, H2.out.1⟩
  · have dg : ¬ (60 : Int) < (s.size : Int) := by omega
    by_cases hV : ∃ V, StandsFor s.data.toList V
    · obtain ⟨V, hV⟩ := hV
      have HV := Lib.hid hV
      clear hV
      go_enter Tryd.func5, Tryd.ntmps5
      go_wp2_with fail
      refine (parse_stands s (by omega) HV.out w H1.out.2).mono ?_
      rintro e w2 ⟨pS, rfl, hs, hb2⟩
      have H2 := Lib.hid (And.intro (H1.out.1.trans (hb2.mono H1.out.1.size)) (And.intro (H1.out.2.below hb2) (hs)))
      clear hs hb2
      go_wp2_with fail
      obtain ⟨w3, hw3⟩ : ∃ x, x = w2.alloc (.cells #[.pointer pS] 30) := ⟨_, rfl⟩
      have hb3 : Below w2.heap.size w2 w3 := by rw [hw3]; exact (Below.refl _ _).alloc (Nat.le_refl _) _
      have hcS_0 : w3.cell? ⟨w2.heap.size, 0, none⟩ = some (.pointer pS) := by rw [hw3, World.cell?_alloc_at (hn := rfl)]; rfl
      have hl3 : w2.heap.size < w3.heap.size := by rw [hw3]; simp
      rw [← hw3]
      have H3 := Lib.hid (And.intro (H2.out.1.trans (hb3.mono H2.out.1.size)) (And.intro (H2.out.2.1.below hb3) (And.intro (H2.out.2.2.below hb3) (hl3))))
      clear hw3 hl3 hb3
      refine (refParse_stands s (by omega) HV.out w3).mono ?_
      rintro e w4 ⟨v, rfl, hown, hb4⟩
      obtain ⟨AT, cT, rfl, hsl⟩ := OwnV.sl hown
      have hcS_1 := (hb4.cell (p := ⟨w2.heap.size, 0, none⟩) H3.out.2.2.2).trans hcS_0
      have H4 := Lib.hid (And.intro (H3.out.1.trans (hb4.mono H3.out.1.size)) (And.intro (H3.out.2.1.below hb4) (And.intro (H3.out.2.2.1.below hb4) (And.intro (Nat.lt_of_lt_of_le H3.out.2.2.2 hb4.size) (hsl)))))
      clear hsl hown hcS_0 hb4
      obtain ⟨N, hN⟩ : ∃ N, N = (nodesI V).length := ⟨_, rfl⟩
      have HN := Lib.hid hN
      have hN4 : N ≤ 4096 := by rw [hN]; exact nodesI_le H4.out.2.2.1.1
      have HP := Lib.hid (show popW V = N from by rw [hN, nodesI_len])
      rw [← hN]
      clear hN
      go_wp2_with fail
      refine (len_any w4 pS V H4.out.2.2.1).mono ?_
      rw [HP.out]
      rintro e w5 ⟨rfl, hb5⟩
      have hcS_2 := (hb5.cell (p := ⟨w2.heap.size, 0, none⟩) H4.out.2.2.2.1).trans hcS_1
      have H5 := Lib.hid (And.intro (H4.out.1.trans (hb5.mono H4.out.1.size)) (And.intro (H4.out.2.1.below hb5) (And.intro (H4.out.2.2.1.below hb5) (And.intro (Nat.lt_of_lt_of_le H4.out.2.2.2.1 hb5.size) ((H4.out.2.2.2.2.below hb5).more hb5.size)))))
      clear hcS_1 hb5
      go_wp2_with fail
      refine (list_any w5 pS V H5.out.2.2.1 H5.out.2.1.bru H5.out.2.1.glt).mono ?_
      rintro e w6 ⟨v, rfl, hown, hb6⟩
      have hI := own_nodes hown
      obtain ⟨A', c', rfl, hsl⟩ := OwnV.sl hI
      rw [← HN.out]
      have hcS_3 := (hb6.cell (p := ⟨w2.heap.size, 0, none⟩) H5.out.2.2.2.1).trans hcS_2
      have H6 := Lib.hid (And.intro (H5.out.1.trans (hb6.mono H5.out.1.size)) (And.intro (H5.out.2.1.below hb6) (And.intro (H5.out.2.2.1.below hb6) (And.intro (Nat.lt_of_lt_of_le H5.out.2.2.2.1 hb6.size) (And.intro ((H5.out.2.2.2.2.below hb6).more hb6.size) (hsl))))))
      clear hsl hown hI hcS_2 hb6
      have hss := refSame_self A' AT c' cT (nodesI V) w6 H6.out.2.2.2.2.2 H6.out.2.2.2.2.1 (by rw [← HN.out]; omega)
      rw [← HN.out] at hss
      have HSS := Lib.hid hss
      clear hss
      go_wp2_with fail
      refine (HSS.out).mono ?_
      rintro e w7 ⟨rfl, hb7⟩
      have hcS_4 := (hb7.cell (p := ⟨w2.heap.size, 0, none⟩) H6.out.2.2.2.1).trans hcS_3
      have H7 := Lib.hid (And.intro (H6.out.1.trans (hb7.mono H6.out.1.size)) (And.intro (H6.out.2.1.below hb7) (And.intro (H6.out.2.2.1.below hb7) (And.intro (Nat.lt_of_lt_of_le H6.out.2.2.2.1 hb7.size) (And.intro ((H6.out.2.2.2.2.1.below hb7).more hb7.size) ((H6.out.2.2.2.2.2.below hb7).more hb7.size))))))
      clear hcS_3 hb7
      go_wp2_with fail
      refine (string_any w7 pS V H7.out.2.2.1 H7.out.2.1).mono ?_
      rw [stands_text HV.out, ← bs_of]
      rintro e w8 ⟨rfl, hb8⟩
      have hcS_5 := (hb8.cell (p := ⟨w2.heap.size, 0, none⟩) H7.out.2.2.2.1).trans hcS_4
      have H8 := Lib.hid (And.intro (H7.out.1.trans (hb8.mono H7.out.1.size)) (And.intro (H7.out.2.1.below hb8) (And.intro (H7.out.2.2.1.below hb8) (And.intro (Nat.lt_of_lt_of_le H7.out.2.2.2.1 hb8.size) (And.intro ((H7.out.2.2.2.2.1.below hb8).more hb8.size) ((H7.out.2.2.2.2.2.below hb8).more hb8.size))))))
      clear hcS_4 hb8
      have hq : (s.toList == s.toList) = true := beq_iff_eq.2 rfl
      go_wp2_with fail
      refine (awake_any w8 H8.out.2.1).mono ?_
      rintro e w9 ⟨rfl, hb9⟩
      have hcS_6 := (hb9.cell (p := ⟨w2.heap.size, 0, none⟩) H8.out.2.2.2.1).trans hcS_5
      have H9 := Lib.hid (And.intro (H8.out.1.trans (hb9.mono H8.out.1.size)) (And.intro (H8.out.2.1.below hb9) (And.intro (H8.out.2.2.1.below hb9) (And.intro (Nat.lt_of_lt_of_le H8.out.2.2.2.1 hb9.size) (And.intro ((H8.out.2.2.2.2.1.below hb9).more hb9.size) ((H8.out.2.2.2.2.2.below hb9).more hb9.size))))))
      clear hcS_5 hb9
      go_wp2_with fail
      go_ret
      exact ⟨rfl, H9.out.1⟩
    · have h0 : s.data.toList ≠ [] := fun e => hV ⟨zeros, .inl ⟨e, rfl⟩⟩
      have hno : ∀ R, ¬ Reads s.data.toList R := fun R h => hV ⟨_, .inr ⟨R, h, rfl⟩⟩
      have HNO := Lib.hid (And.intro h0 hno)
      clear hV h0 hno
      go_enter Tryd.func5, Tryd.ntmps5
      go_wp2_with fail
      refine (parse_bad s (by omega) HNO.out.1 HNO.out.2 w H1.out.2).mono ?_
      rintro e w2 ⟨rfl, hb2⟩
      have H2 := Lib.hid (And.intro (H1.out.1.trans (hb2.mono H1.out.1.size)) (H1.out.2.below hb2))
      clear hb2
      go_wp2_with fail
      obtain ⟨w3, hw3⟩ : ∃ x, x = w2.alloc (.cells #[.pointer none] 30) := ⟨_, rfl⟩
      have hb3 : Below w2.heap.size w2 w3 := by rw [hw3]; exact (Below.refl _ _).alloc (Nat.le_refl _) _
      have hcS_0 : w3.cell? ⟨w2.heap.size, 0, none⟩ = some (.pointer none) := by rw [hw3, World.cell?_alloc_at (hn := rfl)]; rfl
      have hl3 : w2.heap.size < w3.heap.size := by rw [hw3]; simp
      rw [← hw3]
      have H3 := Lib.hid (And.intro (H2.out.1.trans (hb3.mono H2.out.1.size)) (And.intro (H2.out.2.below hb3) (hl3)))
      clear hw3 hl3 hb3
      refine (refParse_bad s (by omega) HNO.out.1 HNO.out.2 w3).mono ?_
      rintro e w4 ⟨v, rfl, hb4⟩
      have hcS_1 := (hb4.cell (p := ⟨w2.heap.size, 0, none⟩) H3.out.2.2).trans hcS_0
      have H4 := Lib.hid (And.intro (H3.out.1.trans (hb4.mono H3.out.1.size)) (And.intro (H3.out.2.1.below hb4) (Nat.lt_of_lt_of_le H3.out.2.2 hb4.size)))
      clear hcS_0 hb4
      go_wp2_with fail
      refine (len_any w4 none zeros ⟨wds_zeros, .inl ⟨rfl, rfl⟩⟩).mono ?_
      rw [pop_zeros]
      rintro e w5 ⟨rfl, hb5⟩
      have hcS_2 := (hb5.cell (p := ⟨w2.heap.size, 0, none⟩) H4.out.2.2).trans hcS_1
      have H5 := Lib.hid (And.intro (H4.out.1.trans (hb5.mono H4.out.1.size)) (And.intro (H4.out.2.1.below hb5) (Nat.lt_of_lt_of_le H4.out.2.2 hb5.size)))
      clear hcS_1 hb5
      go_wp2_with fail
      refine (awake_any w5 H5.out.2.1).mono ?_
      rintro e w6 ⟨rfl, hb6⟩
      have hcS_3 := (hb6.cell (p := ⟨w2.heap.size, 0, none⟩) H5.out.2.2).trans hcS_2
      have H6 := Lib.hid (And.intro (H5.out.1.trans (hb6.mono H5.out.1.size)) (And.intro (H5.out.2.1.below hb6) (Nat.lt_of_lt_of_le H5.out.2.2 hb6.size)))
      clear hcS_2 hb6
      go_wp2_with fail
      go_ret
      exact ⟨rfl, H6.out.1⟩

theorem laid_met (os : Os) : laidMet Tryd.prog Rows.nodesetParseRow.laid ((World.laidAll Tryd.prog os Rows.nodesetParseRow.laid).forCall (fun _ _ => 0) ⟨#[], #[.string ⟨#[]⟩], []⟩).memory :=
  laidMet_laidAll _ (laid_fits os) (laid_ifaces os)
theorem reads (os : Os) {H : Type} (enc : TypeId × Value → H) : ∃ places, DataW.whole enc Tryd.prog ((World.laidAll Tryd.prog os Rows.nodesetParseRow.laid).forCall (fun _ _ => 0) ⟨#[], #[.string ⟨#[]⟩], []⟩).memory Tryd.f5.params.toList Rows.nodesetParseSpec.vars false #[Value.string ⟨#[]⟩].toList 8 = some ([.lit (.string [])], [], places) :=
  ⟨[], by kernel_rfl⟩

set_option maxRecDepth 100000 in
theorem lifted (os : Os) (started : os.Started) (H : Type) (enc : TypeId × Value → H) (F : Stop.Interp) :
    ReturnsInHanded {} Tryd.checked os 5 .any ((OpenSpec.ofChange Rows.nodesetParseSpec).preRow enc Tryd.prog Tryd.f5 Rows.nodesetParseRow.domain false Rows.nodesetParseRow.laid) (((OpenSpec.ofChange Rows.nodesetParseSpec).at F).post enc Tryd.prog Tryd.f5 false true false false) := by
  obtain ⟨places, hx⟩ := reads os enc
  refine returnsInHanded_of_row (C := Tryd.checked) (s := OpenSpec.ofChange Rows.nodesetParseSpec) own started (by kernel_rfl) Tryd.func5
    (witness_row_atRef (enc := enc) (C := Tryd.checked) false (World.laidAll Tryd.prog os Rows.nodesetParseRow.laid) #[.string ⟨#[]⟩] (World.laidAll_os _ _ _) (laid_vars os _) (laid_rest os _) (by kernel_rfl)
      (OpenSpec.preRow_of_cond 8 hx (by kernel_rfl) (fun k hk => by cases hk) (by kernel_rfl) (laid_met os))) ?_
  intro W base args ds gs before hval0 hW _ _ _ hLH hSh _
  have hL0 := hLH
  rw [MakeChecks.laidMetH_plain _ _ _ (by kernel_rfl)] at hL0
  have hL : laidMet Tryd.prog Rows.nodesetParseRow.laid W := hL0
  clear hL0
  have hr : Ready6 W := ready_of hL.tail hL.tail.tail hL.tail.tail.tail.tail.tail hL.tail.tail.tail.tail hSh
  have hval : ∀ (j : Nat) t v, Tryd.f5.params[j]? = some t → args[j]? = some v → Value.okWide Tryd.prog W .any base t v := hval0
  have hW' := hW
  obtain ⟨p, q, hA0, hV, rfl, hfz, hnd⟩ := hW
  have hA : DataW.TrodAll enc Tryd.prog W 0 (fun _ => true) true Tryd.f5.params.toList args.toList ds p := hA0
  rw [Tryd.params5] at hA hval
  obtain ⟨v0, vs0, d0, ds0, p0, q0, hargs, rfl, rfl, h0, r0⟩ := trodAll_cons hA
  obtain ⟨rfl, rfl, rfl⟩ := trodAll_nil r0
  obtain rfl : args = #[v0] := by cases args; simp_all
  obtain ⟨rfl, rfl⟩ := trodVars_none hV
  obtain ⟨s0, rfl, rfl, rfl, w0⟩ := open_string Tryd.underlying9 (hval 0 9 v0 rfl rfl) h0
  clear hA0 hval0
  refine (walk W s0 w0 hr).mono fun e W' ⟨he, hb⟩ => ?_
  subst he
  exact ⟨_, rfl, law_post laidOut (by kernel_rfl) rfl Tryd.underlying4 rfl hW' rfl rfl rfl hb⟩

theorem said : Rows.NodesetParseSaid :=
  OpenClaim.holds_of_cond 5 Tryd.f5 rfl rfl rfl rfl rfl rfl rfl ⟨rfl, rfl, rfl, rfl, rfl⟩ rfl rfl rfl rfl rfl (by kernel_rfl) Tryd.func5 (by kernel_rfl)
    (of_decide_eq_true (by kernel_rfl)) (by unfold Func.isWrapper; first | (rw [if_pos (by decide +kernel)]; kernel_rfl) | (rw [if_neg (by decide +kernel)]; exact ⟨rfl, rfl⟩))
    (fun os started H enc _ F => by rw [OpenClaim.pre_eq_preRow]; exact lifted os started H enc F)

/-- No parameter wants a stand-in; the program's looks are those of the card. -/
theorem plain (f : FuncId) (fn : Func) (hf : Tryd.pinned.checked.prog.funcNamed "samaritan/samaritanlaw02.NodesetParse" = some f) (hfn : Tryd.pinned.checked.prog.funcs[f]? = some fn) :
    true = Tryd.pinned.checked.prog.looks [] ∧ ∀ (j : Nat) t, fn.params[j]? = some t → Tryd.pinned.checked.prog.wantsStandIn t = false := by
  obtain rfl : f = 5 := Option.some.inj ((show Tryd.prog.funcNamed "samaritan/samaritanlaw02.NodesetParse" = some 5 by kernel_rfl).symm.trans hf) |>.symm
  obtain rfl : fn = Tryd.f5 := (Option.some.inj (Tryd.func5.symm.trans hfn)).symm
  refine ⟨by kernel_rfl, fun j t ht => ?_⟩
  rw [Tryd.params5] at ht
  have hm := Array.mem_of_getElem? ht
  have hall : (#[9] : Array TypeId).toList.all (fun t => Tryd.prog.wantsStandIn t == false) = true := by kernel_rfl
  have := List.all_eq_true.1 hall t (by simpa using hm)
  exact beq_iff_eq.1 this

theorem card : Rows.NodesetParseCardSaid :=
  Claim7.holds_tied_plain_at .later [] _ _ _ _ said (fun _ h => by cases h) (by kernel_rfl) (fun _ h => by cases h) nodesetParse_row_tie rfl ⟨rfl, rfl⟩ (by kernel_rfl) rfl plain (by kernel_rfl)
#print axioms card
end Go.Proofs.YtalfjcamjdmdjaaDoor.l02Parse
