/-
  samaritanlaw12.ProtocolTruncation returns true for every input, and the arguments read afterwards as before.
  Conditions: those of the given row (its list of package variables), tied to the program's text by the given tie; the card speaks of the pruned copy of the project that the seat was translated from.
-/
import Derived.Test.YtbbklideciappaaDoorCards
import Derived.Test.YtbbklideciappaaDoorTie
import Derived.Test.YtbbklideciappaaDoorPqO
import Derived.Test.YtbbklideciappaaDoorPqIW
import Derived.Test.YtbbklideciappaaDoorPqS
import Derived.Test.YtbbklideciappaaDoorPqTr
import Derived.Test.YtbbklideciappaaDoorLift
import Derived.Test.YtbbklideciappaaDoorPqLt
import Derived.OpenShut
import Derived.Deep.RegionHeld3
import Derived.Deep.DeepHandedRow
namespace Go.Proofs.YtbbklideciappaaDoor.l12Truncation
open Go.ChangeShapes Go.WideShapes Go.ChangeAt Go.RowKit Go.Maps
open Go.ChangeMaps (open_string shut_string)

set_option maxRecDepth 100000 in
set_option maxHeartbeats 8000000 in
theorem walk (w : World) (p : Prot) (hp : ProtArg w p) (cut : Int) (wc : (Lit.int .u16 cut).wf = true) (hr : Ready w) :
    Calls Tryd.prog 3 #[.agg #[.string p.name, .int .i64 p.ver, .slice p.qA p.qs.length p.qc], .int .u16 cut] w fun e w' => e = .returned (.bool true) ∧ Below w.heap.size w w' := by
  have hb0 := below_new w (.cells #[.string p.name, .int .i64 p.ver, .slice p.qA p.qs.length p.qc] 24)
  have hz0 := lt_new w (.cells #[.string p.name, .int .i64 p.ver, .slice p.qA p.qs.length p.qc] 24)
  obtain ⟨f0, f1, f2⟩ := fresh3 w (.string p.name) (.int .i64 p.ver) (.slice p.qA p.qs.length p.qc) 24
  obtain ⟨W0, hW0⟩ : ∃ W0, W0 = w.alloc (.cells #[.string p.name, .int .i64 p.ver, .slice p.qA p.qs.length p.qc] 24) := ⟨_, rfl⟩
  rw [← hW0] at hb0 f0 f1 f2 hz0
  have HAT := Lib.hid ((hp.at_.below hb0).more hb0.size)
  have HWF := Lib.hid hp.wf
  have HR := Lib.hid hr
  have HB0 := Lib.hid hb0
  clear hp hb0 hr
  go_enter Tryd.func3, Tryd.ntmps3
  go_wp2_with fail
  rw [← hW0]
  clear hW0
  refine (awake_any W0 (HR.out.below HB0.out)).mono ?_
  rintro e W1 ⟨rfl, hb1⟩
  have HB1 := Lib.hid hb1
  replace f0 := (hb1.cell (p := ⟨w.heap.size, 0, none⟩) hz0).trans f0
  replace f1 := (hb1.cell (p := ⟨w.heap.size, 1, none⟩) hz0).trans f1
  replace f2 := (hb1.cell (p := ⟨w.heap.size, 2, none⟩) hz0).trans f2
  have hz1 := Nat.lt_of_lt_of_le hz0 hb1.size
  clear hb1
  go_wp2_with fail
  refine (small_any W1 p ((HAT.out.below HB1.out).more HB1.out.size) HWF.out).mono ?_
  rintro e W2 ⟨⟨bg, hbg, rfl⟩, hb2⟩
  have HB2 := Lib.hid (HB1.out.trans (hb2.mono HB1.out.size))
  have HB02 := Lib.hid (HB0.out.trans (HB2.out.mono HB0.out.size))
  have HSM := Lib.hid hbg
  replace f0 := (hb2.cell (p := ⟨w.heap.size, 0, none⟩) hz1).trans f0
  replace f1 := (hb2.cell (p := ⟨w.heap.size, 1, none⟩) hz1).trans f1
  replace f2 := (hb2.cell (p := ⟨w.heap.size, 2, none⟩) hz1).trans f2
  have hz2 := Nat.lt_of_lt_of_le hz1 hb2.size
  clear hb2 hbg hz1
  cases bg
  · go_wp2_with fail
    go_ret
    exact ⟨rfl, HB02.out⟩
  have HCN := Lib.hid (show CntLe p 1000000000 from by have h1 := HSM.out rfl; exact ⟨by have := h1.1; omega, fun q hq => by have := h1.2 q hq; omega⟩)
  have HPA : Hid (∀ W, Below W2.heap.size W2 W → ProtAt W W.heap.size p ∧ Ready W ∧ Below w.heap.size w W) := Lib.hid (fun W hW => by
    have h1 : Below W0.heap.size W0 W := HB2.out.trans (hW.mono HB2.out.size)
    exact ⟨(HAT.out.below h1).more h1.size, HR.out.below (HB0.out.trans (h1.mono HB0.out.size)), HB0.out.trans (h1.mono HB0.out.size)⟩)
  have HF := Lib.hid (And.intro hz2 (And.intro f0 (And.intro f1 f2)))
  have CELLS : Hid (∀ W, Below W2.heap.size W2 W → W.cell? ⟨w.heap.size, 0, none⟩ = some (.string p.name) ∧ W.cell? ⟨w.heap.size, 1, none⟩ = some (.int .i64 p.ver) ∧ W.cell? ⟨w.heap.size, 2, none⟩ = some (.slice p.qA p.qs.length p.qc)) := Lib.hid (fun W h => ⟨(h.cell (p := ⟨w.heap.size, 0, none⟩) HF.out.1).trans HF.out.2.1, (h.cell (p := ⟨w.heap.size, 1, none⟩) HF.out.1).trans HF.out.2.2.1, (h.cell (p := ⟨w.heap.size, 2, none⟩) HF.out.1).trans HF.out.2.2.2⟩)
  go_wp2_with fail
  refine (format_any W2 p (HPA.out W2 (Below.refl _ _)).1 (by have := HWF.out.len; omega) (HPA.out W2 (Below.refl _ _)).2.1).mono ?_
  rintro e W3 ⟨s, b, rfl, hf1, hb3⟩
  have HB3 := Lib.hid hb3
  clear hb3 f0 f1 f2
  rcases hf1 with ⟨ok, hs, rfl⟩ | ⟨no, hs, rfl⟩
  rotate_left
  · clear no hs
    go_wp2_with fail
    go_ret
    exact ⟨rfl, (HPA.out _ HB3.out).2.2⟩
  have hc9 : 0 ≤ cut ∧ cut ≤ 65535 := by have h1 : IntKind.u16.min = 0 := rfl; have h2 : IntKind.u16.max = 65535 := rfl; have := wc; simp only [Lit.wf, h1, h2, Bool.and_eq_true, decide_eq_true_eq] at this; exact this
  have HOK := Lib.hid ok
  have hsd : s.data.toList = textP p := by rw [hs, bs_data]
  have hsz : s.size = (textP p).length := by rw [hs, bs_size]
  have hN0 : 0 < s.size := by rw [hsz]; exact text_pos p
  have hNl : s.size ≤ 330000 := by rw [hsz]; exact text_len ok
  obtain ⟨N, hN⟩ : ∃ N, N = s.size := ⟨_, rfl⟩
  obtain ⟨k, hk⟩ : ∃ k, k = cut.toNat % N := ⟨_, rfl⟩
  have hkN : k < N := by rw [hk]; exact Nat.mod_lt _ (by omega)
  have hks : k < s.size := by omega
  have e0 : IntKind.i64.wrap cut = cut := IntWalk.i64_in _ (by omega)
  have e2 : cut % (s.size : Int) = (k : Int) := by rw [← hN, hk, Int.natCast_emod, Int.toNat_of_nonneg hc9.1]
  have e1 : cut.tmod (s.size : Int) = (k : Int) := by rw [Int.tmod_eq_emod_of_nonneg hc9.1]; exact e2
  have e3 : ¬ (s.size : Int) = 0 := by omega
  have e4 : IntKind.i64.wrap (k : Int) = (k : Int) := IntWalk.i64_in _ (by omega)
  obtain ⟨m, l, j, hl, hj, htk⟩ := take_join (linesP p) k (by show k < (textP p).length; omega)
  have hjl : (10 : UInt8) ∉ l.take j := fun h => lines_ten ok l (List.mem_of_getElem? hl) (List.mem_of_mem_take h)
  have hLm : ∀ x ∈ (linesP p).take m, (10 : UInt8) ∉ x := fun x hx => lines_ten ok x (List.mem_of_mem_take hx)
  have HD := Lib.hid (And.intro hsd (And.intro hl (And.intro htk (And.intro hjl hLm))))
  have hcnt : ((textP p).take k).count 10 = m := by
    show ((joinL (linesP p)).take k).count 10 = m
    rw [htk, List.count_append, count_join hLm, count_zero hjl, Nat.add_zero, List.length_take]
    have := (List.getElem?_eq_some_iff.1 hl).1
    omega
  have HCT := Lib.hid hcnt
  have hml : m ≤ 1089 := by have h1 := (List.getElem?_eq_some_iff.1 hl).1; have h2 := lines_count ok; omega
  have HPR := Lib.hid (fun W (h : Below W2.heap.size W2 W) => parse_any (s.extract 0 k) (by simp; omega) ((linesP p).take m) (l.take j) (by rw [take_ext, hsd]; exact htk) hLm hjl W (HPA.out W h).2.1)
  clear hs hsd hsz hN0 hl hj htk hjl hLm hcnt hk ok hc9
  go_wp2_with fail
  clear e0 e1 e2 e3
  go_loopw [9, 8] (fun i v X => ∃ q : Nat, q ≤ k ∧ i = .int .i64 q ∧ v = .int .i64 ((1 + ((textP p).take q).count 10 : Nat) : Int) ∧ X = W3) (fun i _ _ => k - (intOf i).toNat)
  case atStart => exact ⟨0, Nat.zero_le _, rfl, rfl, rfl⟩
  case round =>
    obtain ⟨q, hq, rfl, rfl, rfl⟩ := hrel
    have hcq : ((textP p).take q).count 10 ≤ q := by have h1 := List.count_le_length (a := (10 : UInt8)) (l := (textP p).take q); rw [List.length_take] at h1; omega
    obtain ⟨c, hc⟩ : ∃ c, c = ((textP p).take q).count 10 := ⟨_, rfl⟩
    rw [← hc] at hcq ⊢
    have HC := Lib.hid hc
    clear hc
    by_cases hlt : q < k
    · have hqs : q < s.size := by omega
      have hlt' : (q : Int) < (k : Int) := by omega
      have hqs' : (q : Int) < (s.size : Int) := by omega
      have HB := Lib.hid (show (textP p)[q]? = some s[q] from by rw [← HD.out.1]; exact byte_at hqs)
      have HCN2 := Lib.hid (count_next HB.out)
      by_cases h10 : s[q] = 10
      · have d10 : ((s[q].toNat : Int) == 10) = true := by rw [h10]; rfl
        have HV := Lib.hid (show ((1 + ((textP p).take (q + 1)).count 10 : Nat) : Int) = ((1 + c : Nat) : Int) + 1 from by rw [HCN2.out, if_pos h10, ← HC.out]; omega)
        have w1 : IntKind.i64.wrap (((1 + c : Nat) : Int) + 1) = ((1 + c : Nat) : Int) + 1 := IntWalk.i64_in _ (by omega)
        obtain ⟨C, hC⟩ : ∃ C, C = 1 + c := ⟨_, rfl⟩
        rw [← hC] at HV w1 ⊢
        clear h10 hC
        go_wp2_with fail
        go_roundw
        case rel => exact ⟨q + 1, by omega, by go_num, by rw [HV.out], by first | rfl | trivial⟩
        case measure => simp [intOf]; omega
      · have d10 : ((s[q].toNat : Int) == 10) = false := by
          simp only [beq_eq_false_iff_ne, ne_eq]
          intro h
          exact h10 (UInt8.toNat_inj.1 (by show s[q].toNat = 10; omega))
        have HV := Lib.hid (show ((1 + ((textP p).take (q + 1)).count 10 : Nat) : Int) = ((1 + c : Nat) : Int) from by rw [HCN2.out, if_neg h10, ← HC.out]; omega)
        obtain ⟨C, hC⟩ : ∃ C, C = 1 + c := ⟨_, rfl⟩
        rw [← hC] at HV ⊢
        clear h10 hC
        go_wp2_with fail
        go_roundw
        case rel => exact ⟨q + 1, by omega, by go_num, by rw [HV.out], by first | rfl | trivial⟩
        case measure => simp [intOf]; omega
    · obtain rfl : q = k := by omega
      have hcm : c = m := HC.out.trans HCT.out
      subst hcm
      have hks' : (q : Int) ≤ (s.size : Int) := by omega
      clear hlt hq
      go_wp2_with fail
      refine (HPR.out _ HB3.out).mono ?_
      rintro e W4 ⟨u, a4, c4, rfl, hps, hat4, hcn4, hb4⟩
      unfold protV
      have hcp := cut_parses HOK.out HD.out.2.1 hps
      have HB4 := Lib.hid (HB3.out.trans (hb4.mono HB3.out.size))
      have hb5 := below_new W4 (.cells #[.string u.name, .int .i64 u.ver, .slice u.qA u.qs.length u.qc] 24)
      obtain ⟨k0, k1, k2⟩ := fresh3 W4 (.string u.name) (.int .i64 u.ver) (.slice u.qA u.qs.length u.qc) 24
      have HE := Lib.hid (fun (h : conOf u = empC) => con_empty h)
      have HB5 := Lib.hid (HB4.out.trans (hb5.mono HB4.out.size))
      obtain ⟨n, hn⟩ : ∃ n, n = u.qs.length := ⟨_, rfl⟩
      rw [← hn] at HE k0 k1 k2 HB5 ⊢
      have HCP := Lib.hid hcp
      clear hps hat4 hcn4 hb4 hb5 hn hcp
      have lenk : (joinL ((linesP p).take c) ++ l.take j).length = q := by
        rw [← HD.out.2.2.1, List.length_take]
        show min q (textP p).length = q
        have : (textP p).length = s.size := by rw [← HD.out.1, size_len]
        omega
      by_cases hq0 : q = 0
      · subst hq0
        have hc0 : c = 0 := by
          have h1 := HCT.out
          simpa using h1.symm
        subst hc0
        obtain ⟨ha, hb, hc⟩ := HCP.out.1 (.inl rfl)
        have hn0 := HE.out hc
        subst ha hb hn0
        clear lenk hc
        go_wp2_with fail
        go_ret
        exact ⟨rfl, (HPA.out _ HB5.out).2.2⟩
      · obtain ⟨r, rfl⟩ : ∃ r, q = r + 1 := ⟨q - 1, by omega⟩
        have hrs : r < s.size := by omega
        have hrs' : (r : Int) < (s.size : Int) := by omega
        have hbr : (joinL ((linesP p).take c) ++ l.take j)[r]? = some s[r] := by
          rw [← HD.out.2.2.1, List.getElem?_take_of_lt (by omega)]
          show (textP p)[r]? = _
          rw [← HD.out.1]
          exact byte_at hrs
        have hlc := last_cut HD.out.2.2.2.1 lenk hbr
        clear hbr lenk hq0
        by_cases h10 : s[r] = 10
        · have d10 : ((s[r].toNat : Int) == 10) = true := by rw [h10]; rfl
          obtain ⟨ht, hL⟩ := hlc.1 h10
          have hc0 : 0 < c := by
            rcases Nat.eq_zero_or_pos c with q | q
            · rw [q] at hL
              simp at hL
            · exact q
          obtain ⟨ha, hb⟩ := HCP.out.2 hc0 ht
          clear h10 hlc ht hL hc0
          subst ha
          rcases hb with rfl | ⟨rfl, hcu⟩
          · go_wp2_with fail
            go_ret
            exact ⟨rfl, (HPA.out _ HB5.out).2.2⟩
          · have hn0 := HE.out hcu
            subst hn0
            clear hcu
            go_wp2_with fail
            go_ret
            exact ⟨rfl, (HPA.out _ HB5.out).2.2⟩
        · have d10 : ((s[r].toNat : Int) == 10) = false := by
            simp only [beq_eq_false_iff_ne, ne_eq]
            intro h
            exact h10 (UInt8.toNat_inj.1 (by show s[r].toNat = 10; omega))
          obtain ⟨ha, hb, hcu⟩ := HCP.out.1 (.inr (hlc.2 h10))
          have hn0 := HE.out hcu
          have hac : a4 = ((1 + c : Nat) : Int) := by omega
          have dac : (a4 == ((1 + c : Nat) : Int)) = true := by rw [hac]; simp
          obtain ⟨C, hC⟩ : ∃ C, C = 1 + c := ⟨_, rfl⟩
          rw [← hC] at dac hac ⊢
          subst hac
          subst hb hn0
          clear h10 hlc hcu hC ha
          go_wp2_with fail
          go_ret
          exact ⟨rfl, (HPA.out _ HB5.out).2.2⟩

theorem laid_met (os : Os) : laidMet Tryd.prog Rows.protocolTruncationRow.laid ((World.laidAll Tryd.prog os Rows.protocolTruncationRow.laid).forCall (fun _ _ => 0) ⟨#[], #[.agg #[.string ⟨#[]⟩, .int .i64 0, .slice none 0 0], .int .u16 0], []⟩).memory :=
  laidMet_laidAll _ (laid_fits os) (laid_ifaces os)
theorem reads (os : Os) {H : Type} (enc : TypeId × Value → H) : ∃ places, DataW.whole enc Tryd.prog ((World.laidAll Tryd.prog os Rows.protocolTruncationRow.laid).forCall (fun _ _ => 0) ⟨#[], #[.agg #[.string ⟨#[]⟩, .int .i64 0, .slice none 0 0], .int .u16 0], []⟩).memory Tryd.f3.params.toList Rows.protocolTruncationSpec.vars false #[Value.agg #[.string ⟨#[]⟩, .int .i64 0, .slice none 0 0], .int .u16 0].toList 8 = some ([.agg [.lit (.string []), .lit (.int .i64 0), .nil], .lit (.int .u16 0)], [], places) :=
  ⟨[], by kernel_rfl⟩

set_option maxRecDepth 100000 in
theorem lifted (os : Os) (started : os.Started) (H : Type) (enc : TypeId × Value → H) (F : Stop.Interp) :
    ReturnsInHanded {} Tryd.checked os 3 .any ((OpenSpec.ofChange Rows.protocolTruncationSpec).preRow enc Tryd.prog Tryd.f3 Rows.protocolTruncationRow.domain false Rows.protocolTruncationRow.laid) (((OpenSpec.ofChange Rows.protocolTruncationSpec).at F).post enc Tryd.prog Tryd.f3 false true false false) := by
  obtain ⟨places, hx⟩ := reads os enc
  refine returnsInHanded_of_row (C := Tryd.checked) (s := OpenSpec.ofChange Rows.protocolTruncationSpec) own started (by kernel_rfl) Tryd.func3
    (witness_row_atRef (enc := enc) (C := Tryd.checked) false (World.laidAll Tryd.prog os Rows.protocolTruncationRow.laid) #[.agg #[.string ⟨#[]⟩, .int .i64 0, .slice none 0 0], .int .u16 0] (World.laidAll_os _ _ _) (laid_vars os _) (laid_rest os _) (by kernel_rfl)
      (OpenSpec.preRow_of_cond 8 hx (by kernel_rfl) (fun k hk => by cases hk) (by kernel_rfl) (laid_met os))) ?_
  intro W base args ds gs before hval0 hW _ _ _ hLH hSh _
  have hL0 := hLH
  rw [MakeChecks.laidMetH_plain _ _ _ (by kernel_rfl)] at hL0
  have hL : laidMet Tryd.prog Rows.protocolTruncationRow.laid W := hL0
  clear hL0
  have hr : Ready W := ready_of hL.tail.tail hL.tail.tail.tail.tail.tail hL.tail.tail.tail.tail hSh
  have hval : ∀ (j : Nat) t v, Tryd.f3.params[j]? = some t → args[j]? = some v → Value.okWide Tryd.prog W .any base t v := hval0
  have hW' := hW
  obtain ⟨p, q, hA0, hV, rfl, hfz, hnd⟩ := hW
  have hA : DataW.TrodAll enc Tryd.prog W 0 (fun _ => true) true Tryd.f3.params.toList args.toList ds p := hA0
  rw [Tryd.params3] at hA hval
  obtain ⟨v0, vs0, d0, ds0, p0, q0, hargs, rfl, rfl, h0, r0⟩ := trodAll_cons hA
  obtain ⟨v1, vs1, d1, ds1, p1, q1, rfl, rfl, rfl, h1, r1⟩ := trodAll_cons r0
  obtain ⟨rfl, rfl, rfl⟩ := trodAll_nil r1
  obtain rfl : args = #[v0, v1] := by cases args; simp_all
  obtain ⟨rfl, rfl⟩ := trodVars_none hV
  obtain ⟨p0, rfl, hp0⟩ := open_prot (hval 0 24 v0 rfl rfl) h0
  obtain ⟨a1, rfl, rfl, rfl, w1⟩ := open_int Tryd.underlying25 (hval 1 25 v1 rfl rfl) h1
  clear hA0 hval0
  refine (walk W p0 hp0 a1 w1 hr).mono fun e W' ⟨he, hb⟩ => ?_
  subst he
  exact ⟨_, rfl, law_post laidOut (by kernel_rfl) rfl Tryd.underlying4 rfl hW' rfl rfl rfl hb⟩

theorem said : Rows.ProtocolTruncationSaid :=
  OpenClaim.holds_of_cond 3 Tryd.f3 rfl rfl rfl rfl rfl rfl rfl ⟨rfl, rfl, rfl, rfl, rfl⟩ rfl rfl rfl rfl rfl (by kernel_rfl) Tryd.func3 (by kernel_rfl)
    (of_decide_eq_true (by kernel_rfl)) (by unfold Func.isWrapper; first | (rw [if_pos (by decide +kernel)]; kernel_rfl) | (rw [if_neg (by decide +kernel)]; exact ⟨rfl, rfl⟩))
    (fun os started H enc _ F => by rw [OpenClaim.pre_eq_preRow]; exact lifted os started H enc F)

/-- No parameter wants a stand-in; the program's looks are those of the card. -/
theorem plain (f : FuncId) (fn : Func) (hf : Tryd.pinned.checked.prog.funcNamed "samaritan/samaritanlaw12.ProtocolTruncation" = some f) (hfn : Tryd.pinned.checked.prog.funcs[f]? = some fn) :
    true = Tryd.pinned.checked.prog.looks [] ∧ ∀ (j : Nat) t, fn.params[j]? = some t → Tryd.pinned.checked.prog.wantsStandIn t = false := by
  obtain rfl : f = 3 := Option.some.inj ((show Tryd.prog.funcNamed "samaritan/samaritanlaw12.ProtocolTruncation" = some 3 by kernel_rfl).symm.trans hf) |>.symm
  obtain rfl : fn = Tryd.f3 := (Option.some.inj (Tryd.func3.symm.trans hfn)).symm
  refine ⟨by kernel_rfl, fun j t ht => ?_⟩
  rw [Tryd.params3] at ht
  have hm := Array.mem_of_getElem? ht
  have hall : (#[24, 25] : Array TypeId).toList.all (fun t => Tryd.prog.wantsStandIn t == false) = true := by kernel_rfl
  have := List.all_eq_true.1 hall t (by simpa using hm)
  exact beq_iff_eq.1 this

theorem card : Rows.ProtocolTruncationCardSaid :=
  Claim7.holds_tied_plain_at .later [] _ _ _ _ said (fun _ h => by cases h) (by kernel_rfl) (fun _ h => by cases h) protocolTruncation_row_tie rfl ⟨rfl, rfl⟩ (by kernel_rfl) rfl plain (by kernel_rfl)
#print axioms card
end Go.Proofs.YtbbklideciappaaDoor.l12Truncation
