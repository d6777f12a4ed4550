/-
  samaritanref06.Text at a configuration without a problem (printed by gentxw6.py).
-/
import Derived.Test.YtloacoalmfaceaaGreatDoorTxr6
import Derived.Deep.RegionHeld3
namespace Go.Proofs.YtloacoalmfaceaaGreatDoor
open Go.RowKit Go.Maps Go.Shelf

theorem acc_flat {α : Type} {Lb : List (List UInt8)} {g : α → List (List UInt8)} {xs : List α} (hb : Lb.flatten.length ≤ 500 * Lb.length) (hg : ∀ x ∈ xs, (lineT (g x)).length ≤ 500) (k : Nat) : (acc Lb g xs k).flatten.length ≤ 500 * (acc Lb g xs k).length := by
  have key : ∀ ys : List α, (∀ x ∈ ys, (lineT (g x)).length ≤ 500) → (ys.map (fun x => lineT (g x))).flatten.length ≤ 500 * ys.length := by
    intro ys
    induction ys with
    | nil => intro _; simp
    | cons y r ih =>
      intro h
      have h1 := h y (by simp)
      have h2 := ih (fun x hx => h x (by simp [hx]))
      simp only [List.map_cons, List.flatten_cons, List.length_append, List.length_cons] at h2 ⊢
      omega
  have h := key (xs.take k) (fun x hx => hg x (List.mem_of_mem_take hx))
  unfold acc
  simp only [List.flatten_append, List.length_append, List.length_map] at h ⊢
  omega
theorem acc_next {α : Type} {Lb : List (List UInt8)} {g : α → List (List UInt8)} {xs : List α} {k : Nat} {x : α} (h : xs[k]? = some x) : bs (acc Lb g xs (k + 1)).flatten = bs (acc Lb g xs k).flatten ++ bs (lineT (g x)) := by
  rw [← acc_succ h, List.flatten_append, bs_append]
  simp
theorem line2 (a b : List UInt8) : bs (lineT [a, b]) = (bs (a ++ [32]) ++ bs b) ++ bs [10] := by
  rw [bs_append, bs_append]
  unfold lineT
  rw [join_two, Lib.join_one]
  simp
theorem line4 (a b c d : List UInt8) : bs (lineT [a, b, c, d]) = (((((bs (a ++ [32]) ++ bs b) ++ bs [32]) ++ bs c) ++ bs [32]) ++ bs d) ++ bs [10] := by
  simp only [bs_append]
  unfold lineT
  rw [join_two, join_two, join_two, Lib.join_one]
  simp
theorem wpAnyH_strong {P : Program} {md : Region.Mode} {ops : Array Oper} {Q : Exit → Act → World → Prop} {S1 S2 : World → Prop} (h : ∀ w, S2 w → S1 w) : ∀ (fuel : Nat) (listed : Array Bool) (a : Act) (w : World), wpAnyH P md ops Q S2 fuel listed a w → wpAnyH P md ops Q S1 fuel listed a w
  | 0, _, _, _, hw => hw
  | fuel + 1, _, _, _, hw => ⟨hw.1, fun i hi => wpOp_mono (fun a' w' h' => ⟨h w' h'.1, wpAnyH_strong h fuel _ a' w' h'.2⟩) (hw.2 i hi)⟩
theorem join_snoc' {ws : List (List UInt8)} (hne : ws ≠ []) (x : List UInt8) : Lib.join (ws ++ [x]) [32] = Lib.join ws [32] ++ ([32] ++ x) := by
  cases ws with
  | nil => exact absurd rfl hne
  | cons a r =>
    rw [List.cons_append, Lib.join_cons, Lib.join_cons]
    simp [Lib.joinTail, List.append_assoc]
theorem words_le {p : Plan} (h : PlanOk p) (j : Nat) : (Lib.join (wordsK p j) [32]).length ≤ 500 := by
  obtain ⟨h2, h1⟩ := plan_short h
  have hl := wordsK_len p j
  have hk := h.2.2.1
  have := join_le (k := 40) (acc := wordsK p j) [32] (by simp) (fun x hx => h1 x (by
    simp only [wordsK, planW, List.mem_cons, List.mem_map] at hx ⊢
    rcases hx with hx | hx | hx | ⟨z, hz, hx⟩
    · exact .inl hx
    · exact .inr (.inl hx)
    · exact .inr (.inr (.inl hx))
    · exact .inr (.inr (.inr ⟨z, List.mem_of_mem_take hz, hx⟩))))
  omega
theorem words_zero (FL : List UInt8) (p : Plan) : bs FL ++ (((bs (wPlan ++ [32]) ++ p.code) ++ bs [32]) ++ bs (dec p.urg)) = bs (FL ++ Lib.join (wordsK p 0) [32]) := by
  have e : Lib.join (wordsK p 0) [32] = ((wPlan ++ [32]) ++ p.code.data.toList ++ [32]) ++ dec p.urg := by
    show Lib.join [wPlan, p.code.data.toList, dec p.urg] [32] = _
    rw [join_two, join_two, Lib.join_one]
    simp
  rw [e, show bs (wPlan ++ [32]) ++ p.code = bs ((wPlan ++ [32]) ++ p.code.data.toList) from by have h := bs_append (wPlan ++ [32]) p.code.data.toList; rw [bs_of'] at h; exact h]
  simp only [bs_append]
theorem pars_flat {c : Cfg} (h : Fine c) {k : Nat} (hk : k ≤ 10) : ((parLs c.ps k).map lineT).flatten.length ≤ 5000 := by
  obtain ⟨h1, h2⟩ := parLs_short h k hk
  have := acc_flat (Lb := []) (g := fun x => x) (xs := parLs c.ps k) (by simp) (fun x hx => line_len (h2 x hx)) (parLs c.ps k).length
  have h3 := acc_len [] (fun x => x) (parLs c.ps k) (parLs c.ps k).length
  rw [acc_all] at this h3
  simp only [List.nil_append, List.map_id'] at this h3
  simp only [List.length_nil] at h3
  omega
theorem par_line {Lf : List UInt8} {ps : List Int} {k : Nat} {z zd : Int} (hz : ps[k]? = some z) (hzd : defPs[k]? = some zd) (hne : z ≠ zd) : bs (Lf ++ ((parLs ps k).map lineT).flatten) ++ (((parNm k ++ bs [32]) ++ bs (dec z)) ++ bs [10]) = bs (Lf ++ ((parLs ps (k + 1)).map lineT).flatten) := by
  rw [parLs_succ hz, if_neg (fun e => hne (Option.some.inj (e.symm.trans hzd)).symm.symm), List.map_append, List.flatten_append]
  have e : ([parW k z].map lineT).flatten = ((parNm k).data.toList ++ [32] ++ dec z) ++ [10] := by
    show lineT [(parNm k).data.toList, dec z] ++ [] = _
    unfold lineT
    rw [join_two, Lib.join_one]
    simp
  rw [e, ← List.append_assoc, show parNm k ++ bs [32] = bs ((parNm k).data.toList ++ [32]) from by have h := bs_append (parNm k).data.toList [32]; rw [bs_of'] at h; exact h]
  simp only [bs_append]
set_option maxRecDepth 100000 in
set_option maxHeartbeats 16000000 in
theorem refText_any (w : World) (c : Cfg) (hc : CfgAt w w.heap.size c) (hfi : Fine c) (hsh : Short c) :
    Calls Tryz.prog 14 #[.agg c.cells.toArray] w fun e w' => e = .returned (.string (bs (textC c))) ∧ Below w.heap.size w w' := by
  have hi := cfgIn_new w c 27
  have hb0 : Below w.heap.size w (w.alloc (.cells c.cells.toArray 27)) := (Below.refl _ _).alloc (Nat.le_refl _) _
  have hrow := new_obj w (.cells c.cells.toArray 27)
  obtain ⟨W0, hW0⟩ : ∃ W0, W0 = w.alloc (.cells c.cells.toArray 27) := ⟨_, rfl⟩
  have hz0 : w.heap.size < W0.heap.size := by rw [hW0]; simp
  rw [← hW0] at hi hrow hb0
  have H0 := Lib.hid (And.intro hb0 (And.intro hi (And.intro ((hc.below hb0).more hb0.size) (And.intro hz0 hrow))))
  have HFI := Lib.hid hfi
  have HSH := Lib.hid hsh
  obtain ⟨c0, c1, c2, c3, c4⟩ := hi.five
  have hcen := hfi.cen
  have hdl := hfi.dl
  have HDC := Lib.hid (digits_any c.cen ⟨by omega, by omega⟩ W0)
  have hds : (bs (dec c.cen)).size ≤ 20 := by rw [bs_size]; exact dec_len (by omega)
  obtain ⟨DC, hDC⟩ : ∃ D, D = bs (dec c.cen) := ⟨_, rfl⟩
  have hct : ((⟨#[99, 101, 110, 116, 114, 101, 115, 32]⟩ : ByteArray) ++ DC) ++ (⟨#[10]⟩ : ByteArray) = bs ([lineT [wCentres, dec c.cen]] : List (List UInt8)).flatten := by
    rw [hDC, show (⟨#[99, 101, 110, 116, 114, 101, 115, 32]⟩ : ByteArray) = bs (wCentres ++ [32]) from rfl, show (⟨#[10]⟩ : ByteArray) = bs [10] from rfl, ← line2]
    simp
  have HCT0 := Lib.hid hct
  rw [← hDC] at HDC hds
  obtain ⟨X, hX⟩ : ∃ X, X = c.cells.toArray := ⟨_, rfl⟩
  rw [← hX] at hW0 ⊢
  rw [hW0] at c0
  clear hc hfi hsh hb0 hi hX hz0 hrow hDC hct c1 c2 c3 c4
  go_enter Tryz.func14, Tryz.ntmps14
  go_wp2_with fail
  rw [← hW0]
  clear hW0 c0
  refine HDC.out.mono ?_
  rintro e w' ⟨rfl, n0, rfl⟩
  clear HDC
  obtain ⟨Lb, hLb⟩ : ∃ L, L = [lineT [wCentres, dec c.cen]] := ⟨_, rfl⟩
  rw [← hLb] at HCT0
  have HLb := Lib.hid hLb
  have hbl : Lb.flatten.length ≤ 500 * Lb.length ∧ Lb.length = 1 := by
    rw [hLb]
    have := line_len (cen_short (z := c.cen) (by omega))
    simp
    omega
  have HBL := Lib.hid hbl
  have HSZ := Lib.hid (show c.ds.length ≤ 60 ∧ c.es.length ≤ 60 ∧ c.us.length ≤ 60 ∧ c.pl.length ≤ 70 from HSH.out)
  have hl1 := HSZ.out.1
  have hl2 := HSZ.out.2.1
  have hl3 := HSZ.out.2.2.1
  have hl4 := HSZ.out.2.2.2
  obtain ⟨Y0, hY0⟩ : ∃ Y, Y = W0.drewN n0 := ⟨_, rfl⟩
  have HY := Lib.hid (show Below W0.heap.size W0 Y0 from by rw [hY0]; exact below_dr (Below.refl _ _) _)
  rw [← hY0]
  clear hY0 hLb hbl
  obtain ⟨-, d1, -, -, -⟩ := (H0.out.2.1.below HY.out H0.out.2.2.2.1).five
  go_wp2_with fail
  go_loopw [3, 26] (fun sv i Y => ∃ k : Nat, k ≤ c.ds.length ∧ i = .int .i64 k ∧ sv = .string (bs (acc Lb nodeW c.ds k).flatten) ∧ Below W0.heap.size W0 Y) (fun _ i _ => c.ds.length - (intOf i).toNat)
  case atStart => exact ⟨0, Nat.zero_le _, rfl, by rw [acc_zero, ← HCT0.out], HY.out⟩
  case round =>
    clear d1
    obtain ⟨k, hk, rfl, rfl, hb⟩ := hrel
    have HB := Lib.hid hb
    obtain ⟨S, hS⟩ : ∃ S, S = bs (acc Lb nodeW c.ds k).flatten := ⟨_, rfl⟩
    have HS := Lib.hid hS
    by_cases hlt : k < c.ds.length
    · obtain ⟨z, hz⟩ : ∃ z, c.ds[k]? = some z := ⟨c.ds[k], by simp⟩
      obtain ⟨b, o, hA, _, qz⟩ := (H0.out.2.2.1.ds.below hb).int hz
      have hzr : 0 ≤ z ∧ z ≤ 9 := by
        have h1 := HFI.out.ds z (List.mem_of_getElem? hz)
        unfold Idx at h1
        omega
      have hss : S.size ≤ 1000000 := by
        have h1 := acc_flat (g := nodeW) (xs := c.ds) HBL.out.1 (fun x hx => line_len (node_short (by have h1 := HFI.out.ds x hx; unfold Idx at h1; omega))) k
        have h2 := acc_len Lb nodeW c.ds k
        have h3 := HBL.out.2
        rw [hS, bs_size]
        omega
      have HDZ := Lib.hid (digits_any z ⟨by omega, by omega⟩ wr)
      have hdz : (bs (dec z)).size ≤ 20 := by rw [bs_size]; exact dec_len (by omega)
      obtain ⟨D, hD⟩ : ∃ D, D = bs (dec z) := ⟨_, rfl⟩
      have hct : S ++ (((⟨#[110, 111, 100, 101, 32]⟩ : ByteArray) ++ D) ++ (⟨#[10]⟩ : ByteArray)) = bs (acc Lb nodeW c.ds (k + 1)).flatten := by
        rw [acc_next hz, hS, hD, show (⟨#[110, 111, 100, 101, 32]⟩ : ByteArray) = bs (wNode ++ [32]) from rfl, show (⟨#[10]⟩ : ByteArray) = bs [10] from rfl, ← line2]
        rfl
      have HCT := Lib.hid hct
      rw [← hD] at HDZ hdz
      rw [hA, ← hS]
      clear hz hA hct hD hS hb hzr
      go_wp2_with fail
      refine HDZ.out.mono ?_
      rintro e w' ⟨rfl, n, rfl⟩
      clear HDZ qz
      go_wp2_with fail
      go_roundw
      case rel => exact ⟨k + 1, by omega, by go_num, congrArg Value.string HCT.out, below_dr HB.out _⟩
      case measure => simp [intOf]; omega
    · have hkk : k = c.ds.length := by omega
      subst hkk
      clear hS HS hlt
      obtain ⟨Lc, hLc⟩ : ∃ L, L = acc Lb nodeW c.ds c.ds.length := ⟨_, rfl⟩
      have hcl : Lc.flatten.length ≤ 500 * Lc.length ∧ Lc.length ≤ 61 := by
        rw [hLc]
        have h1 := acc_flat (g := nodeW) (xs := c.ds) HBL.out.1 (fun x hx => line_len (node_short (by have h1 := HFI.out.ds x hx; unfold Idx at h1; omega))) c.ds.length
        have h2 := acc_len Lb nodeW c.ds c.ds.length
        have h3 := HBL.out.2
        exact ⟨h1, by omega⟩
      have HCL := Lib.hid hcl
      have HLc := Lib.hid hLc
      rw [← hLc]
      clear hLc hcl
      obtain ⟨-, -, d2, -, -⟩ := (H0.out.2.1.below hb H0.out.2.2.2.1).five
      clear hb
      go_wp2_with fail
      go_loopw [3, 40] (fun sv i Y => ∃ k : Nat, k ≤ c.es.length ∧ i = .int .i64 k ∧ sv = .string (bs (acc Lc edgeW c.es k).flatten) ∧ Below W0.heap.size W0 Y) (fun _ i _ => c.es.length - (intOf i).toNat)
      case atStart => exact ⟨0, Nat.zero_le _, rfl, by rw [acc_zero], HB.out⟩
      case round =>
        clear d2
        obtain ⟨k, hk, rfl, rfl, hb⟩ := hrel
        obtain ⟨S, hS⟩ : ∃ S, S = bs (acc Lc edgeW c.es k).flatten := ⟨_, rfl⟩
        have HS := Lib.hid hS
        by_cases hlt : k < c.es.length
        · obtain ⟨t, ht⟩ : ∃ t, c.es[k]? = some t := ⟨c.es[k], by simp⟩
          obtain ⟨b, o, hA, hbb, y0, y1, y2⟩ := rec3_at (RecsAt.below H0.out.2.2.1.es hb) ht
          have hok := HFI.out.es t (List.mem_of_getElem? ht)
          unfold EdgeOk Idx at hok
          have hdl := HFI.out.dl
          obtain ⟨f0, f1, f2⟩ := fresh3 wr t 50
          have hbA : Below wr.heap.size wr (wr.alloc (.cells #[.int .i64 t.a, .int .i64 t.b, .int .i64 t.c] 50)) := (Below.refl _ _).alloc (Nat.le_refl _) _
          have hss : S.size ≤ 1000000 := by
            have h1 := acc_flat (g := edgeW) (xs := c.es) HCL.out.1 (fun x hx => line_len (edge_short (by have h1 := HFI.out.es x hx; unfold EdgeOk Idx at h1; omega) (by have h1 := HFI.out.es x hx; unfold EdgeOk Idx at h1; omega) (by have h1 := HFI.out.es x hx; unfold EdgeOk Idx at h1; omega))) k
            have h2 := acc_len Lc edgeW c.es k
            have h3 := HCL.out.2
            rw [hS, bs_size]
            omega
          obtain ⟨YA, hYA⟩ : ∃ Y, Y = wr.alloc (.cells #[.int .i64 t.a, .int .i64 t.b, .int .i64 t.c] 50) := ⟨_, rfl⟩
          have HDA := Lib.hid (fun W => digits_any t.a ⟨by omega, by omega⟩ W)
          have HDB := Lib.hid (fun W => digits_any t.b ⟨by omega, by omega⟩ W)
          have hda : (bs (dec t.a)).size ≤ 20 := by rw [bs_size]; exact dec_len (by omega)
          have hdb : (bs (dec t.b)).size ≤ 20 := by rw [bs_size]; exact dec_len (by omega)
          have hdt : (bs (timeT t.c)).size ≤ 40 := by rw [bs_size]; exact time_len (by omega)
          obtain ⟨DA, hDA⟩ : ∃ D, D = bs (dec t.a) := ⟨_, rfl⟩
          obtain ⟨DB, hDB⟩ : ∃ D, D = bs (dec t.b) := ⟨_, rfl⟩
          obtain ⟨DT, hDT⟩ : ∃ D, D = bs (timeT t.c) := ⟨_, rfl⟩
          have hct : S ++ (((((((⟨#[101, 100, 103, 101, 32]⟩ : ByteArray) ++ DA) ++ (⟨#[32]⟩ : ByteArray)) ++ DB) ++ (⟨#[32]⟩ : ByteArray)) ++ DT) ++ (⟨#[10]⟩ : ByteArray)) = bs (acc Lc edgeW c.es (k + 1)).flatten := by
            rw [acc_next ht, hS, hDA, hDB, hDT, show (⟨#[101, 100, 103, 101, 32]⟩ : ByteArray) = bs (wEdge ++ [32]) from rfl, show (⟨#[10]⟩ : ByteArray) = bs [10] from rfl, show (⟨#[32]⟩ : ByteArray) = bs [32] from rfl, ← line4]
            rfl
          have HCT := Lib.hid hct
          have HDT := Lib.hid hDT
          have HB2 := Lib.hid (show Below W0.heap.size W0 YA from by rw [hYA]; exact hb.trans (hbA.mono hb.size))
          obtain ⟨ta, tb', tc, rfl⟩ : ∃ a b c, t = ⟨a, b, c⟩ := ⟨t.a, t.b, t.c, rfl⟩
          dsimp only at y0 y1 y2 f0 f1 f2 hok hYA hbA HDA HDB hDA hDB HDT
          rw [← hDA] at HDA hda
          rw [← hDB] at HDB hdb
          rw [← hDT] at hdt
          have HG := Lib.hid (show YA.cell? ⟨wr.heap.size, 0, none⟩ = some (.int .i64 ta) ∧ YA.cell? ⟨wr.heap.size, 1, none⟩ = some (.int .i64 tb') from by rw [hYA]; exact ⟨f0, f1⟩)
          rw [hA, ← hS]
          clear ht hA hct hS hb hbA hDA hDB hDT hbb
          by_cases htc : tc = 4611686018427387904
          · have e0 : (tc != 4611686018427387904) = false := by simp [htc]
            have hnv : (⟨#[110, 101, 118, 101, 114]⟩ : ByteArray) = DT := by rw [HDT.out]; unfold timeT; rw [if_pos htc]; rfl
            have HNV := Lib.hid hnv
            clear htc hnv
            go_wp2_with fail
            rw [← hYA, HNV.out]
            clear hYA y0 y1 y2 f0 f1 f2 e0
            have HVS := Lib.hid (And.intro hss (And.intro hda (And.intro hdb hdt)))
            obtain ⟨V1, hV1⟩ : ∃ V, V = (⟨#[101, 100, 103, 101, 32]⟩ : ByteArray) ++ DA := ⟨_, rfl⟩
            have zV1 : V1.size ≤ 25 := by rw [hV1, ByteArray.size_append]; first | omega | (show 5 + _ ≤ _; omega) | (show _ + 1 ≤ _; omega)
            have nV1 : ¬ 9223372036854775807 < 5 + DA.size := by omega
            replace hV1 := hV1.symm
            obtain ⟨V2, hV2⟩ : ∃ V, V = V1 ++ (⟨#[32]⟩ : ByteArray) := ⟨_, rfl⟩
            have zV2 : V2.size ≤ 26 := by rw [hV2, ByteArray.size_append]; first | omega | (show 5 + _ ≤ _; omega) | (show _ + 1 ≤ _; omega)
            have nV2 : ¬ 9223372036854775807 < V1.size + 1 := by omega
            replace hV2 := hV2.symm
            obtain ⟨V3, hV3⟩ : ∃ V, V = V2 ++ DB := ⟨_, rfl⟩
            have zV3 : V3.size ≤ 46 := by rw [hV3, ByteArray.size_append]; first | omega | (show 5 + _ ≤ _; omega) | (show _ + 1 ≤ _; omega)
            have nV3 : ¬ 9223372036854775807 < V2.size + DB.size := by omega
            replace hV3 := hV3.symm
            obtain ⟨V4, hV4⟩ : ∃ V, V = V3 ++ (⟨#[32]⟩ : ByteArray) := ⟨_, rfl⟩
            have zV4 : V4.size ≤ 47 := by rw [hV4, ByteArray.size_append]; first | omega | (show 5 + _ ≤ _; omega) | (show _ + 1 ≤ _; omega)
            have nV4 : ¬ 9223372036854775807 < V3.size + 1 := by omega
            replace hV4 := hV4.symm
            obtain ⟨V5, hV5⟩ : ∃ V, V = V4 ++ DT := ⟨_, rfl⟩
            have zV5 : V5.size ≤ 87 := by rw [hV5, ByteArray.size_append]; first | omega | (show 5 + _ ≤ _; omega) | (show _ + 1 ≤ _; omega)
            have nV5 : ¬ 9223372036854775807 < V4.size + DT.size := by omega
            replace hV5 := hV5.symm
            obtain ⟨V6, hV6⟩ : ∃ V, V = V5 ++ (⟨#[10]⟩ : ByteArray) := ⟨_, rfl⟩
            have zV6 : V6.size ≤ 88 := by rw [hV6, ByteArray.size_append]; first | omega | (show 5 + _ ≤ _; omega) | (show _ + 1 ≤ _; omega)
            have nV6 : ¬ 9223372036854775807 < V5.size + 1 := by omega
            replace hV6 := hV6.symm
            obtain ⟨V7, hV7⟩ : ∃ V, V = S ++ V6 := ⟨_, rfl⟩
            have zV7 : V7.size ≤ 1000088 := by rw [hV7, ByteArray.size_append]; first | omega | (show 5 + _ ≤ _; omega) | (show _ + 1 ≤ _; omega)
            have nV7 : ¬ 9223372036854775807 < S.size + V6.size := by omega
            replace hV7 := hV7.symm
            have HV7 := Lib.hid (show V7 = bs (acc Lc edgeW c.es (k + 1)).flatten from by rw [← HCT.out, ← hV7, ← hV6, ← hV5, ← hV4, ← hV3, ← hV2, ← hV1])
            refine wp_region_held_drew (S := fun Y => Y.cell? ⟨wr.heap.size, 0, none⟩ = some (.int .i64 ta) ∧ Y.cell? ⟨wr.heap.size, 1, none⟩ = some (.int .i64 tb')) (by kernel_rfl) HG.out (fun hHeld => ?_)
            have HB3 := Lib.hid (show Below W0.heap.size W0 YA.drew from HB2.out.drew)
            obtain ⟨U0, hU0⟩ : ∃ U, U = YA.drew := ⟨_, rfl⟩
            rw [← hU0] at hHeld HB3 ⊢
            clear hU0
            refine wpAnyH_take (i := 0) (v := .string S) rfl (by kernel_rfl) (by kernel_rfl) (by kernel_rfl) (fun _ _ _ h => h) (Or.inl ⟨by rfl, ?_⟩) (by assumption) ?_
            · intro w hSw
              go_simp
            show wpAnyH _ _ _ _ _ _ _ (Act.put _ (some 50) _) _
            simp only [Act.put, List.setIfInBounds_toArray, List.set_cons_zero, List.set_cons_succ]
            refine wpAnyH_take (i := 1) (v := .pointer (some ⟨wr.heap.size, 0, none⟩)) rfl (by kernel_rfl) (by kernel_rfl) (by kernel_rfl) (fun _ _ _ h => h) (Or.inl ⟨by rfl, ?_⟩) (by assumption) ?_
            · intro w hSw
              go_simp
            show wpAnyH _ _ _ _ _ _ _ (Act.put _ (some 51) _) _
            simp only [Act.put, List.setIfInBounds_toArray, List.set_cons_zero, List.set_cons_succ]
            refine wpAnyH_take (i := 2) (v := .int .i64 ta) rfl (by kernel_rfl) (by kernel_rfl) (by kernel_rfl) (fun _ _ _ h => h) (Or.inl ⟨by rfl, ?_⟩) (by assumption) ?_
            · intro w hSw
              obtain ⟨s0, s1⟩ := hSw
              go_simp
            show wpAnyH _ _ _ _ _ _ _ (Act.put _ (some 52) _) _
            simp only [Act.put, List.setIfInBounds_toArray, List.set_cons_zero, List.set_cons_succ]
            refine wpAnyH_take (i := 6) (v := .pointer (some ⟨wr.heap.size, 1, none⟩)) rfl (by kernel_rfl) (by kernel_rfl) (by kernel_rfl) (fun _ _ _ h => h) (Or.inl ⟨by rfl, ?_⟩) (by assumption) ?_
            · intro w hSw
              go_simp
            show wpAnyH _ _ _ _ _ _ _ (Act.put _ (some 56) _) _
            simp only [Act.put, List.setIfInBounds_toArray, List.set_cons_zero, List.set_cons_succ]
            refine wpAnyH_take (i := 7) (v := .int .i64 tb') rfl (by kernel_rfl) (by kernel_rfl) (by kernel_rfl) (fun _ _ _ h => h) (Or.inl ⟨by rfl, ?_⟩) (by assumption) ?_
            · intro w hSw
              obtain ⟨s0, s1⟩ := hSw
              go_simp
            show wpAnyH _ _ _ _ _ _ _ (Act.put _ (some 57) _) _
            simp only [Act.put, List.setIfInBounds_toArray, List.set_cons_zero, List.set_cons_succ]
            refine wpAnyH_take (i := 11) (v := .string DT) rfl (by kernel_rfl) (by kernel_rfl) (by kernel_rfl) (fun _ _ _ h => h) (Or.inl ⟨by rfl, ?_⟩) (by assumption) ?_
            · intro w hSw
              go_simp
            show wpAnyH _ _ _ _ _ _ _ (Act.put _ (some 61) _) _
            simp only [Act.put, List.setIfInBounds_toArray, List.set_cons_zero, List.set_cons_succ]
            refine wpAnyH_ready (rs := [3]) (by kernel_rfl) (by simp) ?_
            refine AllReadyH.cons rfl (fun K hK => ?_) AllReadyH.nil
            go_simp
            refine (HDA.out _).mono ?_
            rintro e w' ⟨rfl, m1, rfl⟩
            go_simp
            refine hK.out _ _ hHeld (fun hHeld => ?_)
            clear hK K
            refine wpAnyH_take (i := 4) (v := .string V1) rfl (by kernel_rfl) (by kernel_rfl) (by kernel_rfl) (fun _ _ _ h => h) (Or.inl ⟨by rfl, ?_⟩) (by assumption) ?_
            · intro w hSw
              go_simp
            show wpAnyH _ _ _ _ _ _ _ (Act.put _ (some 54) _) _
            simp only [Act.put, List.setIfInBounds_toArray, List.set_cons_zero, List.set_cons_succ]
            refine wpAnyH_take (i := 5) (v := .string V2) rfl (by kernel_rfl) (by kernel_rfl) (by kernel_rfl) (fun _ _ _ h => h) (Or.inl ⟨by rfl, ?_⟩) (by assumption) ?_
            · intro w hSw
              go_simp
            show wpAnyH _ _ _ _ _ _ _ (Act.put _ (some 55) _) _
            simp only [Act.put, List.setIfInBounds_toArray, List.set_cons_zero, List.set_cons_succ]
            refine wpAnyH_ready (rs := [8]) (by kernel_rfl) (by simp) ?_
            refine AllReadyH.cons rfl (fun K hK => ?_) AllReadyH.nil
            go_simp
            refine (HDB.out _).mono ?_
            rintro e w' ⟨rfl, m2, rfl⟩
            go_simp
            refine hK.out _ _ hHeld (fun hHeld => ?_)
            clear hK K
            refine wpAnyH_take (i := 9) (v := .string V3) rfl (by kernel_rfl) (by kernel_rfl) (by kernel_rfl) (fun _ _ _ h => h) (Or.inl ⟨by rfl, ?_⟩) (by assumption) ?_
            · intro w hSw
              go_simp
            show wpAnyH _ _ _ _ _ _ _ (Act.put _ (some 59) _) _
            simp only [Act.put, List.setIfInBounds_toArray, List.set_cons_zero, List.set_cons_succ]
            refine wpAnyH_take (i := 10) (v := .string V4) rfl (by kernel_rfl) (by kernel_rfl) (by kernel_rfl) (fun _ _ _ h => h) (Or.inl ⟨by rfl, ?_⟩) (by assumption) ?_
            · intro w hSw
              go_simp
            show wpAnyH _ _ _ _ _ _ _ (Act.put _ (some 60) _) _
            simp only [Act.put, List.setIfInBounds_toArray, List.set_cons_zero, List.set_cons_succ]
            refine wpAnyH_take (i := 12) (v := .string V5) rfl (by kernel_rfl) (by kernel_rfl) (by kernel_rfl) (fun _ _ _ h => h) (Or.inl ⟨by rfl, ?_⟩) (by assumption) ?_
            · intro w hSw
              go_simp
            show wpAnyH _ _ _ _ _ _ _ (Act.put _ (some 62) _) _
            simp only [Act.put, List.setIfInBounds_toArray, List.set_cons_zero, List.set_cons_succ]
            refine wpAnyH_take (i := 13) (v := .string V6) rfl (by kernel_rfl) (by kernel_rfl) (by kernel_rfl) (fun _ _ _ h => h) (Or.inl ⟨by rfl, ?_⟩) (by assumption) ?_
            · intro w hSw
              go_simp
            show wpAnyH _ _ _ _ _ _ _ (Act.put _ (some 63) _) _
            simp only [Act.put, List.setIfInBounds_toArray, List.set_cons_zero, List.set_cons_succ]
            refine wpAnyH_take (i := 14) (v := .string V7) rfl (by kernel_rfl) (by kernel_rfl) (by kernel_rfl) (fun _ _ _ h => h) (Or.inl ⟨by rfl, ?_⟩) (by assumption) ?_
            · intro w hSw
              go_simp
            show wpAnyH _ _ _ _ _ _ _ (Act.put _ (some 64) _) _
            simp only [Act.put, List.setIfInBounds_toArray, List.set_cons_zero, List.set_cons_succ]
            refine wpAnyH_take (i := 15) (v := .string V7) rfl (by kernel_rfl) (by kernel_rfl) (by kernel_rfl) (fun _ _ _ h => h) (Or.inl ⟨by rfl, ?_⟩) (by assumption) ?_
            · intro w hSw
              go_simp
            show wpAnyH _ _ _ _ _ _ _ (Act.put _ (some 3) _) _
            simp only [Act.put, List.setIfInBounds_toArray, List.set_cons_zero, List.set_cons_succ]
            refine wpAnyH_done (by kernel_rfl) ?_ _
            clear hV1 hV2 hV3 hV4 hV5 hV6 hV7
            go_wp2_with fail
            go_roundw
            case rel => exact ⟨k + 1, by omega, by go_num, congrArg Value.string HV7.out, below_dr HB3.out _⟩
            case measure => simp [intOf]; omega
          · have e0 : (tc != 4611686018427387904) = true := by simp [htc]
            have HDC' := Lib.hid (fun W => digits_any tc ⟨by omega, by omega⟩ W)
            have hnv : bs (dec tc) = DT := by rw [HDT.out]; unfold timeT; rw [if_neg htc]
            rw [hnv] at HDC'
            clear htc hnv
            go_wp2_with fail
            rw [← hYA]
            clear hYA y0 y1 y2 f0 f1 f2 e0
            refine (HDC'.out _).mono ?_
            rintro e w' ⟨rfl, n, rfl⟩
            have HB4 := Lib.hid (below_dr HB2.out n)
            have HG4 := Lib.hid (show (YA.drewN n).cell? ⟨wr.heap.size, 0, none⟩ = some (.int .i64 ta) ∧ (YA.drewN n).cell? ⟨wr.heap.size, 1, none⟩ = some (.int .i64 tb') from HG.out)
            obtain ⟨YB, hYB⟩ : ∃ Y, Y = YA.drewN n := ⟨_, rfl⟩
            rw [← hYB] at HB4 HG4
            rw [← hYB]
            clear HDC' hYB
            go_wp2_with fail
            have HVS := Lib.hid (And.intro hss (And.intro hda (And.intro hdb hdt)))
            obtain ⟨V1, hV1⟩ : ∃ V, V = (⟨#[101, 100, 103, 101, 32]⟩ : ByteArray) ++ DA := ⟨_, rfl⟩
            have zV1 : V1.size ≤ 25 := by rw [hV1, ByteArray.size_append]; first | omega | (show 5 + _ ≤ _; omega) | (show _ + 1 ≤ _; omega)
            have nV1 : ¬ 9223372036854775807 < 5 + DA.size := by omega
            replace hV1 := hV1.symm
            obtain ⟨V2, hV2⟩ : ∃ V, V = V1 ++ (⟨#[32]⟩ : ByteArray) := ⟨_, rfl⟩
            have zV2 : V2.size ≤ 26 := by rw [hV2, ByteArray.size_append]; first | omega | (show 5 + _ ≤ _; omega) | (show _ + 1 ≤ _; omega)
            have nV2 : ¬ 9223372036854775807 < V1.size + 1 := by omega
            replace hV2 := hV2.symm
            obtain ⟨V3, hV3⟩ : ∃ V, V = V2 ++ DB := ⟨_, rfl⟩
            have zV3 : V3.size ≤ 46 := by rw [hV3, ByteArray.size_append]; first | omega | (show 5 + _ ≤ _; omega) | (show _ + 1 ≤ _; omega)
            have nV3 : ¬ 9223372036854775807 < V2.size + DB.size := by omega
            replace hV3 := hV3.symm
            obtain ⟨V4, hV4⟩ : ∃ V, V = V3 ++ (⟨#[32]⟩ : ByteArray) := ⟨_, rfl⟩
            have zV4 : V4.size ≤ 47 := by rw [hV4, ByteArray.size_append]; first | omega | (show 5 + _ ≤ _; omega) | (show _ + 1 ≤ _; omega)
            have nV4 : ¬ 9223372036854775807 < V3.size + 1 := by omega
            replace hV4 := hV4.symm
            obtain ⟨V5, hV5⟩ : ∃ V, V = V4 ++ DT := ⟨_, rfl⟩
            have zV5 : V5.size ≤ 87 := by rw [hV5, ByteArray.size_append]; first | omega | (show 5 + _ ≤ _; omega) | (show _ + 1 ≤ _; omega)
            have nV5 : ¬ 9223372036854775807 < V4.size + DT.size := by omega
            replace hV5 := hV5.symm
            obtain ⟨V6, hV6⟩ : ∃ V, V = V5 ++ (⟨#[10]⟩ : ByteArray) := ⟨_, rfl⟩
            have zV6 : V6.size ≤ 88 := by rw [hV6, ByteArray.size_append]; first | omega | (show 5 + _ ≤ _; omega) | (show _ + 1 ≤ _; omega)
            have nV6 : ¬ 9223372036854775807 < V5.size + 1 := by omega
            replace hV6 := hV6.symm
            obtain ⟨V7, hV7⟩ : ∃ V, V = S ++ V6 := ⟨_, rfl⟩
            have zV7 : V7.size ≤ 1000088 := by rw [hV7, ByteArray.size_append]; first | omega | (show 5 + _ ≤ _; omega) | (show _ + 1 ≤ _; omega)
            have nV7 : ¬ 9223372036854775807 < S.size + V6.size := by omega
            replace hV7 := hV7.symm
            have HV7 := Lib.hid (show V7 = bs (acc Lc edgeW c.es (k + 1)).flatten from by rw [← HCT.out, ← hV7, ← hV6, ← hV5, ← hV4, ← hV3, ← hV2, ← hV1])
            refine wp_region_held_drew (S := fun Y => Y.cell? ⟨wr.heap.size, 0, none⟩ = some (.int .i64 ta) ∧ Y.cell? ⟨wr.heap.size, 1, none⟩ = some (.int .i64 tb')) (by kernel_rfl) HG4.out (fun hHeld => ?_)
            have HB3 := Lib.hid (show Below W0.heap.size W0 YB.drew from HB4.out.drew)
            obtain ⟨U0, hU0⟩ : ∃ U, U = YB.drew := ⟨_, rfl⟩
            rw [← hU0] at hHeld HB3 ⊢
            clear hU0
            refine wpAnyH_take (i := 0) (v := .string S) rfl (by kernel_rfl) (by kernel_rfl) (by kernel_rfl) (fun _ _ _ h => h) (Or.inl ⟨by rfl, ?_⟩) (by assumption) ?_
            · intro w hSw
              go_simp
            show wpAnyH _ _ _ _ _ _ _ (Act.put _ (some 50) _) _
            simp only [Act.put, List.setIfInBounds_toArray, List.set_cons_zero, List.set_cons_succ]
            refine wpAnyH_take (i := 1) (v := .pointer (some ⟨wr.heap.size, 0, none⟩)) rfl (by kernel_rfl) (by kernel_rfl) (by kernel_rfl) (fun _ _ _ h => h) (Or.inl ⟨by rfl, ?_⟩) (by assumption) ?_
            · intro w hSw
              go_simp
            show wpAnyH _ _ _ _ _ _ _ (Act.put _ (some 51) _) _
            simp only [Act.put, List.setIfInBounds_toArray, List.set_cons_zero, List.set_cons_succ]
            refine wpAnyH_take (i := 2) (v := .int .i64 ta) rfl (by kernel_rfl) (by kernel_rfl) (by kernel_rfl) (fun _ _ _ h => h) (Or.inl ⟨by rfl, ?_⟩) (by assumption) ?_
            · intro w hSw
              obtain ⟨s0, s1⟩ := hSw
              go_simp
            show wpAnyH _ _ _ _ _ _ _ (Act.put _ (some 52) _) _
            simp only [Act.put, List.setIfInBounds_toArray, List.set_cons_zero, List.set_cons_succ]
            refine wpAnyH_take (i := 6) (v := .pointer (some ⟨wr.heap.size, 1, none⟩)) rfl (by kernel_rfl) (by kernel_rfl) (by kernel_rfl) (fun _ _ _ h => h) (Or.inl ⟨by rfl, ?_⟩) (by assumption) ?_
            · intro w hSw
              go_simp
            show wpAnyH _ _ _ _ _ _ _ (Act.put _ (some 56) _) _
            simp only [Act.put, List.setIfInBounds_toArray, List.set_cons_zero, List.set_cons_succ]
            refine wpAnyH_take (i := 7) (v := .int .i64 tb') rfl (by kernel_rfl) (by kernel_rfl) (by kernel_rfl) (fun _ _ _ h => h) (Or.inl ⟨by rfl, ?_⟩) (by assumption) ?_
            · intro w hSw
              obtain ⟨s0, s1⟩ := hSw
              go_simp
            show wpAnyH _ _ _ _ _ _ _ (Act.put _ (some 57) _) _
            simp only [Act.put, List.setIfInBounds_toArray, List.set_cons_zero, List.set_cons_succ]
            refine wpAnyH_take (i := 11) (v := .string DT) rfl (by kernel_rfl) (by kernel_rfl) (by kernel_rfl) (fun _ _ _ h => h) (Or.inl ⟨by rfl, ?_⟩) (by assumption) ?_
            · intro w hSw
              go_simp
            show wpAnyH _ _ _ _ _ _ _ (Act.put _ (some 61) _) _
            simp only [Act.put, List.setIfInBounds_toArray, List.set_cons_zero, List.set_cons_succ]
            refine wpAnyH_ready (rs := [3]) (by kernel_rfl) (by simp) ?_
            refine AllReadyH.cons rfl (fun K hK => ?_) AllReadyH.nil
            go_simp
            refine (HDA.out _).mono ?_
            rintro e w' ⟨rfl, m1, rfl⟩
            go_simp
            refine hK.out _ _ hHeld (fun hHeld => ?_)
            clear hK K
            refine wpAnyH_take (i := 4) (v := .string V1) rfl (by kernel_rfl) (by kernel_rfl) (by kernel_rfl) (fun _ _ _ h => h) (Or.inl ⟨by rfl, ?_⟩) (by assumption) ?_
            · intro w hSw
              go_simp
            show wpAnyH _ _ _ _ _ _ _ (Act.put _ (some 54) _) _
            simp only [Act.put, List.setIfInBounds_toArray, List.set_cons_zero, List.set_cons_succ]
            refine wpAnyH_take (i := 5) (v := .string V2) rfl (by kernel_rfl) (by kernel_rfl) (by kernel_rfl) (fun _ _ _ h => h) (Or.inl ⟨by rfl, ?_⟩) (by assumption) ?_
            · intro w hSw
              go_simp
            show wpAnyH _ _ _ _ _ _ _ (Act.put _ (some 55) _) _
            simp only [Act.put, List.setIfInBounds_toArray, List.set_cons_zero, List.set_cons_succ]
            refine wpAnyH_ready (rs := [8]) (by kernel_rfl) (by simp) ?_
            refine AllReadyH.cons rfl (fun K hK => ?_) AllReadyH.nil
            go_simp
            refine (HDB.out _).mono ?_
            rintro e w' ⟨rfl, m2, rfl⟩
            go_simp
            refine hK.out _ _ hHeld (fun hHeld => ?_)
            clear hK K
            refine wpAnyH_take (i := 9) (v := .string V3) rfl (by kernel_rfl) (by kernel_rfl) (by kernel_rfl) (fun _ _ _ h => h) (Or.inl ⟨by rfl, ?_⟩) (by assumption) ?_
            · intro w hSw
              go_simp
            show wpAnyH _ _ _ _ _ _ _ (Act.put _ (some 59) _) _
            simp only [Act.put, List.setIfInBounds_toArray, List.set_cons_zero, List.set_cons_succ]
            refine wpAnyH_take (i := 10) (v := .string V4) rfl (by kernel_rfl) (by kernel_rfl) (by kernel_rfl) (fun _ _ _ h => h) (Or.inl ⟨by rfl, ?_⟩) (by assumption) ?_
            · intro w hSw
              go_simp
            show wpAnyH _ _ _ _ _ _ _ (Act.put _ (some 60) _) _
            simp only [Act.put, List.setIfInBounds_toArray, List.set_cons_zero, List.set_cons_succ]
            refine wpAnyH_take (i := 12) (v := .string V5) rfl (by kernel_rfl) (by kernel_rfl) (by kernel_rfl) (fun _ _ _ h => h) (Or.inl ⟨by rfl, ?_⟩) (by assumption) ?_
            · intro w hSw
              go_simp
            show wpAnyH _ _ _ _ _ _ _ (Act.put _ (some 62) _) _
            simp only [Act.put, List.setIfInBounds_toArray, List.set_cons_zero, List.set_cons_succ]
            refine wpAnyH_take (i := 13) (v := .string V6) rfl (by kernel_rfl) (by kernel_rfl) (by kernel_rfl) (fun _ _ _ h => h) (Or.inl ⟨by rfl, ?_⟩) (by assumption) ?_
            · intro w hSw
              go_simp
            show wpAnyH _ _ _ _ _ _ _ (Act.put _ (some 63) _) _
            simp only [Act.put, List.setIfInBounds_toArray, List.set_cons_zero, List.set_cons_succ]
            refine wpAnyH_take (i := 14) (v := .string V7) rfl (by kernel_rfl) (by kernel_rfl) (by kernel_rfl) (fun _ _ _ h => h) (Or.inl ⟨by rfl, ?_⟩) (by assumption) ?_
            · intro w hSw
              go_simp
            show wpAnyH _ _ _ _ _ _ _ (Act.put _ (some 64) _) _
            simp only [Act.put, List.setIfInBounds_toArray, List.set_cons_zero, List.set_cons_succ]
            refine wpAnyH_take (i := 15) (v := .string V7) rfl (by kernel_rfl) (by kernel_rfl) (by kernel_rfl) (fun _ _ _ h => h) (Or.inl ⟨by rfl, ?_⟩) (by assumption) ?_
            · intro w hSw
              go_simp
            show wpAnyH _ _ _ _ _ _ _ (Act.put _ (some 3) _) _
            simp only [Act.put, List.setIfInBounds_toArray, List.set_cons_zero, List.set_cons_succ]
            refine wpAnyH_done (by kernel_rfl) ?_ _
            clear hV1 hV2 hV3 hV4 hV5 hV6 hV7
            go_wp2_with fail
            go_roundw
            case rel => exact ⟨k + 1, by omega, by go_num, congrArg Value.string HV7.out, below_dr HB3.out _⟩
            case measure => simp [intOf]; omega
        · have hkk : k = c.es.length := by omega
          subst hkk
          clear hS HS hlt
          obtain ⟨Ld, hLd⟩ : ∃ L, L = acc Lc edgeW c.es c.es.length := ⟨_, rfl⟩
          have hcl : Ld.flatten.length ≤ 500 * Ld.length ∧ Ld.length ≤ 121 := by
            rw [hLd]
            have h1 := acc_flat (g := edgeW) (xs := c.es) HCL.out.1 (fun x hx => line_len (edge_short (by have h1 := HFI.out.es x hx; unfold EdgeOk Idx at h1; omega) (by have h1 := HFI.out.es x hx; unfold EdgeOk Idx at h1; omega) (by have h1 := HFI.out.es x hx; unfold EdgeOk Idx at h1; omega))) c.es.length
            have h2 := acc_len Lc edgeW c.es c.es.length
            have h3 := HCL.out.2
            exact ⟨h1, by omega⟩
          have HDL := Lib.hid hcl
          have HLd := Lib.hid hLd
          have HBe := Lib.hid hb
          rw [← hLd]
          clear hLd hcl
          obtain ⟨-, -, -, d3, -⟩ := (H0.out.2.1.below hb H0.out.2.2.2.1).five
          clear hb
          go_wp2_with fail
          go_loopw [3, 69] (fun sv i Y => ∃ k : Nat, k ≤ c.us.length ∧ i = .int .i64 k ∧ sv = .string (bs (acc Ld unitW c.us k).flatten) ∧ Below W0.heap.size W0 Y) (fun _ i _ => c.us.length - (intOf i).toNat)
          case atStart => exact ⟨0, Nat.zero_le _, rfl, by rw [acc_zero], HBe.out⟩
          case round =>
            clear d3
            obtain ⟨k, hk, rfl, rfl, hb⟩ := hrel
            obtain ⟨S, hS⟩ : ∃ S, S = bs (acc Ld unitW c.us k).flatten := ⟨_, rfl⟩
            by_cases hlt : k < c.us.length
            · obtain ⟨t, ht⟩ : ∃ t, c.us[k]? = some t := ⟨c.us[k], by simp⟩
              obtain ⟨b, o, hA, hbb, y0, y1, y2⟩ := rec3_at (RecsAt.below H0.out.2.2.1.us hb) ht
              have hok := HFI.out.us t (List.mem_of_getElem? ht)
              have hkd := hok.1
              unfold UnitOk Idx at hok
              have hdl := HFI.out.dl
              obtain ⟨f0, f1, f2⟩ := fresh3 wr t 53
              have hbA : Below wr.heap.size wr (wr.alloc (.cells #[.int .i64 t.a, .int .i64 t.b, .int .i64 t.c] 53)) := (Below.refl _ _).alloc (Nat.le_refl _) _
              have hnA : wr.heap.size < (wr.alloc (.cells #[.int .i64 t.a, .int .i64 t.b, .int .i64 t.c] 53)).heap.size := by simp
              have hss : S.size ≤ 1000000 := by
                have h1 := acc_flat (g := unitW) (xs := c.us) HDL.out.1 (fun x hx => line_len (unit_short (by have h1 := HFI.out.us x hx; unfold UnitOk Idx at h1; omega) (by have h1 := HFI.out.us x hx; unfold UnitOk Idx at h1; omega))) k
                have h2 := acc_len Ld unitW c.us k
                have h3 := HDL.out.2
                rw [hS, bs_size]
                omega
              obtain ⟨YA, hYA⟩ : ∃ Y, Y = wr.alloc (.cells #[.int .i64 t.a, .int .i64 t.b, .int .i64 t.c] 53) := ⟨_, rfl⟩
              have HDA := Lib.hid (fun W => kindR_any t.a hkd W)
              have HDB := Lib.hid (fun W => digits_any t.b ⟨by omega, by omega⟩ W)
              have HDC' := Lib.hid (fun W => digits_any t.c ⟨by omega, by omega⟩ W)
              have hda : (bs (kindName t.a)).size ≤ 20 := by rw [bs_size]; exact name20 _
              have hdb : (bs (dec t.b)).size ≤ 20 := by rw [bs_size]; exact dec_len (by omega)
              have hdt : (bs (dec t.c)).size ≤ 40 := by rw [bs_size]; exact dec40 (by omega)
              obtain ⟨DA, hDA⟩ : ∃ D, D = bs (kindName t.a) := ⟨_, rfl⟩
              obtain ⟨DB, hDB⟩ : ∃ D, D = bs (dec t.b) := ⟨_, rfl⟩
              obtain ⟨DT, hDT⟩ : ∃ D, D = bs (dec t.c) := ⟨_, rfl⟩
              have hct : S ++ (((((((⟨#[117, 110, 105, 116, 32]⟩ : ByteArray) ++ DA) ++ (⟨#[32]⟩ : ByteArray)) ++ DB) ++ (⟨#[32]⟩ : ByteArray)) ++ DT) ++ (⟨#[10]⟩ : ByteArray)) = bs (acc Ld unitW c.us (k + 1)).flatten := by
                rw [acc_next ht, hS, hDA, hDB, hDT, show (⟨#[117, 110, 105, 116, 32]⟩ : ByteArray) = bs (wUnit ++ [32]) from rfl, show (⟨#[10]⟩ : ByteArray) = bs [10] from rfl, show (⟨#[32]⟩ : ByteArray) = bs [32] from rfl, ← line4]
                rfl
              have HCT := Lib.hid hct
              have HB2 := Lib.hid (show Below W0.heap.size W0 YA from by rw [hYA]; exact hb.trans (hbA.mono hb.size))
              obtain ⟨ta, tb', tc, rfl⟩ : ∃ a b c, t = ⟨a, b, c⟩ := ⟨t.a, t.b, t.c, rfl⟩
              dsimp only at y0 y1 y2 f0 f1 f2 hok hYA hbA hnA HDA HDB HDC' hDA hDB hDT
              rw [← hDA] at HDA hda
              rw [← hDB] at HDB hdb
              rw [← hDT] at hdt HDC'
              have HG := Lib.hid (show (YA.cell? ⟨wr.heap.size, 0, none⟩ = some (.int .i64 ta) ∧ YA.cell? ⟨wr.heap.size, 1, none⟩ = some (.int .i64 tb') ∧ YA.cell? ⟨wr.heap.size, 2, none⟩ = some (.int .i64 tc)) ∧ wr.heap.size < YA.heap.size from by rw [hYA]; exact ⟨⟨f0, f1, f2⟩, hnA⟩)
              rw [hA, ← hS]
              clear ht hA hct hS hb hbA hnA hDA hDB hDT hbb hkd
              go_wp2_with fail
              rw [← hYA]
              clear hYA y0 y1 y2 f0 f1 f2
              obtain ⟨V1, hV1⟩ : ∃ V, V = (⟨#[117, 110, 105, 116, 32]⟩ : ByteArray) ++ DA := ⟨_, rfl⟩
              have zV1 : V1.size ≤ 25 := by rw [hV1, ByteArray.size_append]; first | omega | (show 5 + _ ≤ _; omega) | (show _ + 1 ≤ _; omega)
              have nV1 : ¬ 9223372036854775807 < 5 + DA.size := by omega
              replace hV1 := hV1.symm
              obtain ⟨V2, hV2⟩ : ∃ V, V = V1 ++ (⟨#[32]⟩ : ByteArray) := ⟨_, rfl⟩
              have zV2 : V2.size ≤ 26 := by rw [hV2, ByteArray.size_append]; first | omega | (show 5 + _ ≤ _; omega) | (show _ + 1 ≤ _; omega)
              have nV2 : ¬ 9223372036854775807 < V1.size + 1 := by omega
              replace hV2 := hV2.symm
              obtain ⟨V3, hV3⟩ : ∃ V, V = V2 ++ DB := ⟨_, rfl⟩
              have zV3 : V3.size ≤ 46 := by rw [hV3, ByteArray.size_append]; first | omega | (show 5 + _ ≤ _; omega) | (show _ + 1 ≤ _; omega)
              have nV3 : ¬ 9223372036854775807 < V2.size + DB.size := by omega
              replace hV3 := hV3.symm
              obtain ⟨V4, hV4⟩ : ∃ V, V = V3 ++ (⟨#[32]⟩ : ByteArray) := ⟨_, rfl⟩
              have zV4 : V4.size ≤ 47 := by rw [hV4, ByteArray.size_append]; first | omega | (show 5 + _ ≤ _; omega) | (show _ + 1 ≤ _; omega)
              have nV4 : ¬ 9223372036854775807 < V3.size + 1 := by omega
              replace hV4 := hV4.symm
              obtain ⟨V5, hV5⟩ : ∃ V, V = V4 ++ DT := ⟨_, rfl⟩
              have zV5 : V5.size ≤ 87 := by rw [hV5, ByteArray.size_append]; first | omega | (show 5 + _ ≤ _; omega) | (show _ + 1 ≤ _; omega)
              have nV5 : ¬ 9223372036854775807 < V4.size + DT.size := by omega
              replace hV5 := hV5.symm
              obtain ⟨V6, hV6⟩ : ∃ V, V = V5 ++ (⟨#[10]⟩ : ByteArray) := ⟨_, rfl⟩
              have zV6 : V6.size ≤ 88 := by rw [hV6, ByteArray.size_append]; first | omega | (show 5 + _ ≤ _; omega) | (show _ + 1 ≤ _; omega)
              have nV6 : ¬ 9223372036854775807 < V5.size + 1 := by omega
              replace hV6 := hV6.symm
              obtain ⟨V7, hV7⟩ : ∃ V, V = S ++ V6 := ⟨_, rfl⟩
              have zV7 : V7.size ≤ 1000088 := by rw [hV7, ByteArray.size_append]; first | omega | (show 5 + _ ≤ _; omega) | (show _ + 1 ≤ _; omega)
              have nV7 : ¬ 9223372036854775807 < S.size + V6.size := by omega
              replace hV7 := hV7.symm
              have HV7 := Lib.hid (show V7 = bs (acc Ld unitW c.us (k + 1)).flatten from by rw [← HCT.out, ← hV7, ← hV6, ← hV5, ← hV4, ← hV3, ← hV2, ← hV1])
              refine wp_region_held_drew (S := fun Y => Y.cell? ⟨wr.heap.size, 0, none⟩ = some (.int .i64 ta) ∧ Y.cell? ⟨wr.heap.size, 1, none⟩ = some (.int .i64 tb') ∧ Y.cell? ⟨wr.heap.size, 2, none⟩ = some (.int .i64 tc)) (by kernel_rfl) HG.out.1 (fun hHeld => ?_)
              have HB3 := Lib.hid (show Below W0.heap.size W0 YA.drew from HB2.out.drew)
              have gl : wr.heap.size < YA.drew.heap.size := HG.out.2
              obtain ⟨U0, hU0⟩ : ∃ U, U = YA.drew := ⟨_, rfl⟩
              rw [← hU0] at hHeld HB3 gl ⊢
              clear hU0
              refine wpAnyH_take (i := 0) (v := .string S) rfl (by kernel_rfl) (by kernel_rfl) (by kernel_rfl) (fun _ _ _ h => h) (Or.inl ⟨by rfl, ?_⟩) (by assumption) ?_
              · intro w hSw
                go_simp
              show wpAnyH _ _ _ _ _ _ _ (Act.put _ (some 73) _) _
              simp only [Act.put, List.setIfInBounds_toArray, List.set_cons_zero, List.set_cons_succ]
              refine wpAnyH_take (i := 1) (v := .pointer (some ⟨wr.heap.size, 0, none⟩)) rfl (by kernel_rfl) (by kernel_rfl) (by kernel_rfl) (fun _ _ _ h => h) (Or.inl ⟨by rfl, ?_⟩) (by assumption) ?_
              · intro w hSw
                go_simp
              show wpAnyH _ _ _ _ _ _ _ (Act.put _ (some 74) _) _
              simp only [Act.put, List.setIfInBounds_toArray, List.set_cons_zero, List.set_cons_succ]
              refine wpAnyH_take (i := 2) (v := .int .i64 ta) rfl (by kernel_rfl) (by kernel_rfl) (by kernel_rfl) (fun _ _ _ h => h) (Or.inl ⟨by rfl, ?_⟩) (by assumption) ?_
              · intro w hSw
                obtain ⟨s0, s1, s2⟩ := hSw
                go_simp
              show wpAnyH _ _ _ _ _ _ _ (Act.put _ (some 75) _) _
              simp only [Act.put, List.setIfInBounds_toArray, List.set_cons_zero, List.set_cons_succ]
              refine wpAnyH_take (i := 6) (v := .pointer (some ⟨wr.heap.size, 1, none⟩)) rfl (by kernel_rfl) (by kernel_rfl) (by kernel_rfl) (fun _ _ _ h => h) (Or.inl ⟨by rfl, ?_⟩) (by assumption) ?_
              · intro w hSw
                go_simp
              show wpAnyH _ _ _ _ _ _ _ (Act.put _ (some 79) _) _
              simp only [Act.put, List.setIfInBounds_toArray, List.set_cons_zero, List.set_cons_succ]
              refine wpAnyH_take (i := 7) (v := .int .i64 tb') rfl (by kernel_rfl) (by kernel_rfl) (by kernel_rfl) (fun _ _ _ h => h) (Or.inl ⟨by rfl, ?_⟩) (by assumption) ?_
              · intro w hSw
                obtain ⟨s0, s1, s2⟩ := hSw
                go_simp
              show wpAnyH _ _ _ _ _ _ _ (Act.put _ (some 80) _) _
              simp only [Act.put, List.setIfInBounds_toArray, List.set_cons_zero, List.set_cons_succ]
              refine wpAnyH_take (i := 11) (v := .pointer (some ⟨wr.heap.size, 2, none⟩)) rfl (by kernel_rfl) (by kernel_rfl) (by kernel_rfl) (fun _ _ _ h => h) (Or.inl ⟨by rfl, ?_⟩) (by assumption) ?_
              · intro w hSw
                go_simp
              show wpAnyH _ _ _ _ _ _ _ (Act.put _ (some 84) _) _
              simp only [Act.put, List.setIfInBounds_toArray, List.set_cons_zero, List.set_cons_succ]
              refine wpAnyH_take (i := 12) (v := .int .i64 tc) rfl (by kernel_rfl) (by kernel_rfl) (by kernel_rfl) (fun _ _ _ h => h) (Or.inl ⟨by rfl, ?_⟩) (by assumption) ?_
              · intro w hSw
                obtain ⟨s0, s1, s2⟩ := hSw
                go_simp
              show wpAnyH _ _ _ _ _ _ _ (Act.put _ (some 85) _) _
              simp only [Act.put, List.setIfInBounds_toArray, List.set_cons_zero, List.set_cons_succ]
              refine wpAnyH_ready (rs := [3]) (by kernel_rfl) (by simp) ?_
              refine AllReadyH.cons rfl (fun K hK => ?_) AllReadyH.nil
              go_simp
              refine (HDA.out _).mono ?_
              rintro e U1 ⟨rfl, hbk⟩
              go_simp
              refine hK.out _ _ ⟨(hbk.cell (p := ⟨wr.heap.size, 0, none⟩) gl).trans hHeld.1, (hbk.cell (p := ⟨wr.heap.size, 1, none⟩) gl).trans hHeld.2.1, (hbk.cell (p := ⟨wr.heap.size, 2, none⟩) gl).trans hHeld.2.2⟩ (fun hHeld => ?_)
              clear hK K
              have HB4 := Lib.hid (HB3.out.trans (hbk.mono HB3.out.size))
              clear hbk
              refine wpAnyH_take (i := 4) (v := .string V1) rfl (by kernel_rfl) (by kernel_rfl) (by kernel_rfl) (fun _ _ _ h => h) (Or.inl ⟨by rfl, ?_⟩) (by assumption) ?_
              · intro w hSw
                go_simp
              show wpAnyH _ _ _ _ _ _ _ (Act.put _ (some 77) _) _
              simp only [Act.put, List.setIfInBounds_toArray, List.set_cons_zero, List.set_cons_succ]
              refine wpAnyH_take (i := 5) (v := .string V2) rfl (by kernel_rfl) (by kernel_rfl) (by kernel_rfl) (fun _ _ _ h => h) (Or.inl ⟨by rfl, ?_⟩) (by assumption) ?_
              · intro w hSw
                go_simp
              show wpAnyH _ _ _ _ _ _ _ (Act.put _ (some 78) _) _
              simp only [Act.put, List.setIfInBounds_toArray, List.set_cons_zero, List.set_cons_succ]
              refine wpAnyH_ready (rs := [8]) (by kernel_rfl) (by simp) ?_
              refine AllReadyH.cons rfl (fun K hK => ?_) AllReadyH.nil
              go_simp
              refine (HDB.out _).mono ?_
              rintro e w' ⟨rfl, m2, rfl⟩
              go_simp
              refine hK.out _ _ hHeld (fun hHeld => ?_)
              clear hK K
              refine wpAnyH_take (i := 9) (v := .string V3) rfl (by kernel_rfl) (by kernel_rfl) (by kernel_rfl) (fun _ _ _ h => h) (Or.inl ⟨by rfl, ?_⟩) (by assumption) ?_
              · intro w hSw
                go_simp
              show wpAnyH _ _ _ _ _ _ _ (Act.put _ (some 82) _) _
              simp only [Act.put, List.setIfInBounds_toArray, List.set_cons_zero, List.set_cons_succ]
              refine wpAnyH_take (i := 10) (v := .string V4) rfl (by kernel_rfl) (by kernel_rfl) (by kernel_rfl) (fun _ _ _ h => h) (Or.inl ⟨by rfl, ?_⟩) (by assumption) ?_
              · intro w hSw
                go_simp
              show wpAnyH _ _ _ _ _ _ _ (Act.put _ (some 83) _) _
              simp only [Act.put, List.setIfInBounds_toArray, List.set_cons_zero, List.set_cons_succ]
              refine wpAnyH_ready (rs := [13]) (by kernel_rfl) (by simp) ?_
              refine AllReadyH.cons rfl (fun K hK => ?_) AllReadyH.nil
              go_simp
              refine (HDC'.out _).mono ?_
              rintro e w' ⟨rfl, m3, rfl⟩
              go_simp
              refine hK.out _ _ hHeld (fun hHeld => ?_)
              clear hK K
              refine wpAnyH_take (i := 14) (v := .string V5) rfl (by kernel_rfl) (by kernel_rfl) (by kernel_rfl) (fun _ _ _ h => h) (Or.inl ⟨by rfl, ?_⟩) (by assumption) ?_
              · intro w hSw
                go_simp
              show wpAnyH _ _ _ _ _ _ _ (Act.put _ (some 87) _) _
              simp only [Act.put, List.setIfInBounds_toArray, List.set_cons_zero, List.set_cons_succ]
              refine wpAnyH_take (i := 15) (v := .string V6) rfl (by kernel_rfl) (by kernel_rfl) (by kernel_rfl) (fun _ _ _ h => h) (Or.inl ⟨by rfl, ?_⟩) (by assumption) ?_
              · intro w hSw
                go_simp
              show wpAnyH _ _ _ _ _ _ _ (Act.put _ (some 88) _) _
              simp only [Act.put, List.setIfInBounds_toArray, List.set_cons_zero, List.set_cons_succ]
              refine wpAnyH_take (i := 16) (v := .string V7) rfl (by kernel_rfl) (by kernel_rfl) (by kernel_rfl) (fun _ _ _ h => h) (Or.inl ⟨by rfl, ?_⟩) (by assumption) ?_
              · intro w hSw
                go_simp
              show wpAnyH _ _ _ _ _ _ _ (Act.put _ (some 89) _) _
              simp only [Act.put, List.setIfInBounds_toArray, List.set_cons_zero, List.set_cons_succ]
              refine wpAnyH_take (i := 17) (v := .string V7) rfl (by kernel_rfl) (by kernel_rfl) (by kernel_rfl) (fun _ _ _ h => h) (Or.inl ⟨by rfl, ?_⟩) (by assumption) ?_
              · intro w hSw
                go_simp
              show wpAnyH _ _ _ _ _ _ _ (Act.put _ (some 3) _) _
              simp only [Act.put, List.setIfInBounds_toArray, List.set_cons_zero, List.set_cons_succ]
              refine wpAnyH_done (by kernel_rfl) ?_ _
              clear hV1 hV2 hV3 hV4 hV5 hV6 hV7
              go_wp2_with fail
              go_roundw
              case rel => exact ⟨k + 1, by omega, by go_num, congrArg Value.string HV7.out, below_dr HB4.out _⟩
              case measure => simp [intOf]; omega
            · have hkk : k = c.us.length := by omega
              subst hkk
              clear hS hlt
              obtain ⟨Le, hLe⟩ : ∃ L, L = acc Ld unitW c.us c.us.length := ⟨_, rfl⟩
              have hcl : Le.flatten.length ≤ 500 * Le.length ∧ Le.length ≤ 181 := by
                rw [hLe]
                have h1 := acc_flat (g := unitW) (xs := c.us) HDL.out.1 (fun x hx => line_len (unit_short (by have h1 := HFI.out.us x hx; unfold UnitOk Idx at h1; omega) (by have h1 := HFI.out.us x hx; unfold UnitOk Idx at h1; omega))) c.us.length
                have h2 := acc_len Ld unitW c.us c.us.length
                have h3 := HDL.out.2
                exact ⟨h1, by omega⟩
              have HEL := Lib.hid hcl
              have HLe := Lib.hid hLe
              have HBf := Lib.hid hb
              rw [← hLe]
              clear hLe hcl
              obtain ⟨-, -, -, -, d4⟩ := (H0.out.2.1.below hb H0.out.2.2.2.1).five
              clear hb
              go_wp2_with fail
              go_loopw [3, 94] (fun sv i Y => ∃ k : Nat, k ≤ c.pl.length ∧ i = .int .i64 k ∧ sv = .string (bs (acc Le planW c.pl k).flatten) ∧ Below W0.heap.size W0 Y) (fun _ i _ => c.pl.length - (intOf i).toNat)
              case atStart => exact ⟨0, Nat.zero_le _, rfl, by rw [acc_zero], HBf.out⟩
              case round =>
                clear d4
                obtain ⟨k, hk, rfl, rfl, hb⟩ := hrel
                obtain ⟨FL, hFL⟩ : ∃ S, S = (acc Le planW c.pl k).flatten := ⟨_, rfl⟩
                have hfl : FL.length ≤ 1000000 := by
                  have h1 := acc_flat (g := planW) (xs := c.pl) HEL.out.1 (fun x hx => by
                    obtain ⟨i, hi⟩ := List.getElem?_of_mem hx
                    exact line_len (plan_short (HFI.out.plan hi))) k
                  have h2 := acc_len Le planW c.pl k
                  have h3 := HEL.out.2
                  rw [hFL]
                  omega
                obtain ⟨S, hS⟩ : ∃ S, S = bs FL := ⟨_, rfl⟩
                have hss : S.size ≤ 1000000 := by rw [hS, bs_size]; exact hfl
                by_cases hlt : k < c.pl.length
                · obtain ⟨p, hp⟩ : ∃ t, c.pl[k]? = some t := ⟨c.pl[k], by simp⟩
                  obtain ⟨⟨b, o, hA, hbb, y0, y1, y2, yk⟩, hwf⟩ := (H0.out.2.2.1.pl.below hb) k p hp
                  have HOK := Lib.hid (HFI.out.plan hp)
                  have hu := HOK.out.2.1
                  have hkl := HOK.out.2.2.1
                  have hco := HOK.out.1.1
                  have hbA : Below wr.heap.size wr (wr.alloc (.cells #[.string p.code, .int .i64 p.urg, .slice p.kA p.kinds.length p.kc] 43)) := (Below.refl _ _).alloc (Nat.le_refl _) _
                  have f0 : (wr.alloc (.cells #[.string p.code, .int .i64 p.urg, .slice p.kA p.kinds.length p.kc] 43)).cell? ⟨wr.heap.size, 0, none⟩ = some (.string p.code) := by rw [World.cell?_alloc_at (hn := rfl)]; rfl
                  have f1 : (wr.alloc (.cells #[.string p.code, .int .i64 p.urg, .slice p.kA p.kinds.length p.kc] 43)).cell? ⟨wr.heap.size, 1, none⟩ = some (.int .i64 p.urg) := by rw [World.cell?_alloc_at (hn := rfl)]; rfl
                  have f2 : (wr.alloc (.cells #[.string p.code, .int .i64 p.urg, .slice p.kA p.kinds.length p.kc] 43)).cell? ⟨wr.heap.size, 2, none⟩ = some (.slice p.kA p.kinds.length p.kc) := by rw [World.cell?_alloc_at (hn := rfl)]; rfl
                  obtain ⟨YA, hYA⟩ : ∃ Y, Y = wr.alloc (.cells #[.string p.code, .int .i64 p.urg, .slice p.kA p.kinds.length p.kc] 43) := ⟨_, rfl⟩
                  have HT := Lib.hid hp
                  have HFLL := Lib.hid (And.intro hFL hfl)
                  have HDU := Lib.hid (fun W => digits_any p.urg ⟨by omega, by omega⟩ W)
                  have hdu : (bs (dec p.urg)).size ≤ 20 := by rw [bs_size]; exact dec_len (by omega)
                  obtain ⟨DU, hDU⟩ : ∃ D, D = bs (dec p.urg) := ⟨_, rfl⟩
                  have hct : S ++ ((((⟨#[112, 108, 97, 110, 32]⟩ : ByteArray) ++ p.code) ++ (⟨#[32]⟩ : ByteArray)) ++ DU) = bs (FL ++ Lib.join (wordsK p 0) [32]) := by
                    rw [hS, hDU, show (⟨#[112, 108, 97, 110, 32]⟩ : ByteArray) = bs (wPlan ++ [32]) from rfl, show (⟨#[32]⟩ : ByteArray) = bs [32] from rfl]
                    exact words_zero FL p
                  have HCT := Lib.hid hct
                  have HB2 := Lib.hid (show Below W0.heap.size W0 YA from by rw [hYA]; exact hb.trans (hbA.mono hb.size))
                  rw [← hDU] at HDU hdu
                  have HG := Lib.hid (show YA.cell? ⟨wr.heap.size, 0, none⟩ = some (.string p.code) ∧ YA.cell? ⟨wr.heap.size, 1, none⟩ = some (.int .i64 p.urg) ∧ YA.cell? ⟨wr.heap.size, 2, none⟩ = some (.slice p.kA p.kinds.length p.kc) from by rw [hYA]; exact ⟨f0, f1, f2⟩)
                  rw [hA, ← hFL, ← hS]
                  clear hp hA hct hS hFL hb hbA hDU hbb yk hwf
                  go_wp2_with fail
                  rw [← hYA]
                  clear hYA y0 y1 y2 f0 f1 f2
                  obtain ⟨V1, hV1⟩ : ∃ V, V = (⟨#[112, 108, 97, 110, 32]⟩ : ByteArray) ++ p.code := ⟨_, rfl⟩
                  have zV1 : V1.size ≤ 45 := by rw [hV1, ByteArray.size_append]; first | omega | (show 5 + _ ≤ _; omega) | (show _ + 1 ≤ _; omega)
                  have nV1 : ¬ 9223372036854775807 < 5 + p.code.size := by omega
                  replace hV1 := hV1.symm
                  obtain ⟨V2, hV2⟩ : ∃ V, V = V1 ++ (⟨#[32]⟩ : ByteArray) := ⟨_, rfl⟩
                  have zV2 : V2.size ≤ 46 := by rw [hV2, ByteArray.size_append]; first | omega | (show 5 + _ ≤ _; omega) | (show _ + 1 ≤ _; omega)
                  have nV2 : ¬ 9223372036854775807 < V1.size + 1 := by omega
                  replace hV2 := hV2.symm
                  obtain ⟨V3, hV3⟩ : ∃ V, V = V2 ++ DU := ⟨_, rfl⟩
                  have zV3 : V3.size ≤ 66 := by rw [hV3, ByteArray.size_append]; first | omega | (show 5 + _ ≤ _; omega) | (show _ + 1 ≤ _; omega)
                  have nV3 : ¬ 9223372036854775807 < V2.size + DU.size := by omega
                  replace hV3 := hV3.symm
                  obtain ⟨V4, hV4⟩ : ∃ V, V = S ++ V3 := ⟨_, rfl⟩
                  have zV4 : V4.size ≤ 1000066 := by rw [hV4, ByteArray.size_append]; first | omega | (show 5 + _ ≤ _; omega) | (show _ + 1 ≤ _; omega)
                  have nV4 : ¬ 9223372036854775807 < S.size + V3.size := by omega
                  replace hV4 := hV4.symm
                  have HV4 := Lib.hid (show V4 = bs (FL ++ Lib.join (wordsK p 0) [32]) from by rw [← HCT.out, ← hV4, ← hV3, ← hV2, ← hV1])
                  refine wp_region_held_drew (S := fun Y => Y.cell? ⟨wr.heap.size, 0, none⟩ = some (.string p.code) ∧ Y.cell? ⟨wr.heap.size, 1, none⟩ = some (.int .i64 p.urg) ∧ Y.cell? ⟨wr.heap.size, 2, none⟩ = some (.slice p.kA p.kinds.length p.kc)) (by kernel_rfl) HG.out (fun hHeld => ?_)
                  have HB3 := Lib.hid (show Below W0.heap.size W0 YA.drew from HB2.out.drew)
                  obtain ⟨U0, hU0⟩ : ∃ U, U = YA.drew := ⟨_, rfl⟩
                  rw [← hU0] at hHeld HB3 ⊢
                  clear hU0
                  refine wpAnyH_take (i := 0) (v := .string S) rfl (by kernel_rfl) (by kernel_rfl) (by kernel_rfl) (fun _ _ _ h => h) (Or.inl ⟨by rfl, ?_⟩) (by assumption) ?_
                  · intro w hSw
                    go_simp
                  show wpAnyH _ _ _ _ _ _ _ (Act.put _ (some 98) _) _
                  simp only [Act.put, List.setIfInBounds_toArray, List.set_cons_zero, List.set_cons_succ]
                  refine wpAnyH_take (i := 1) (v := .pointer (some ⟨wr.heap.size, 0, none⟩)) rfl (by kernel_rfl) (by kernel_rfl) (by kernel_rfl) (fun _ _ _ h => h) (Or.inl ⟨by rfl, ?_⟩) (by assumption) ?_
                  · intro w hSw
                    go_simp
                  show wpAnyH _ _ _ _ _ _ _ (Act.put _ (some 99) _) _
                  simp only [Act.put, List.setIfInBounds_toArray, List.set_cons_zero, List.set_cons_succ]
                  refine wpAnyH_take (i := 2) (v := .string p.code) rfl (by kernel_rfl) (by kernel_rfl) (by kernel_rfl) (fun _ _ _ h => h) (Or.inl ⟨by rfl, ?_⟩) (by assumption) ?_
                  · intro w hSw
                    obtain ⟨s0, s1, s2⟩ := hSw
                    go_simp
                  show wpAnyH _ _ _ _ _ _ _ (Act.put _ (some 100) _) _
                  simp only [Act.put, List.setIfInBounds_toArray, List.set_cons_zero, List.set_cons_succ]
                  refine wpAnyH_take (i := 3) (v := .string V1) rfl (by kernel_rfl) (by kernel_rfl) (by kernel_rfl) (fun _ _ _ h => h) (Or.inl ⟨by rfl, ?_⟩) (by assumption) ?_
                  · intro w hSw
                    go_simp
                  show wpAnyH _ _ _ _ _ _ _ (Act.put _ (some 101) _) _
                  simp only [Act.put, List.setIfInBounds_toArray, List.set_cons_zero, List.set_cons_succ]
                  refine wpAnyH_take (i := 4) (v := .string V2) rfl (by kernel_rfl) (by kernel_rfl) (by kernel_rfl) (fun _ _ _ h => h) (Or.inl ⟨by rfl, ?_⟩) (by assumption) ?_
                  · intro w hSw
                    go_simp
                  show wpAnyH _ _ _ _ _ _ _ (Act.put _ (some 102) _) _
                  simp only [Act.put, List.setIfInBounds_toArray, List.set_cons_zero, List.set_cons_succ]
                  refine wpAnyH_take (i := 5) (v := .pointer (some ⟨wr.heap.size, 1, none⟩)) rfl (by kernel_rfl) (by kernel_rfl) (by kernel_rfl) (fun _ _ _ h => h) (Or.inl ⟨by rfl, ?_⟩) (by assumption) ?_
                  · intro w hSw
                    go_simp
                  show wpAnyH _ _ _ _ _ _ _ (Act.put _ (some 103) _) _
                  simp only [Act.put, List.setIfInBounds_toArray, List.set_cons_zero, List.set_cons_succ]
                  refine wpAnyH_take (i := 6) (v := .int .i64 p.urg) rfl (by kernel_rfl) (by kernel_rfl) (by kernel_rfl) (fun _ _ _ h => h) (Or.inl ⟨by rfl, ?_⟩) (by assumption) ?_
                  · intro w hSw
                    obtain ⟨s0, s1, s2⟩ := hSw
                    go_simp
                  show wpAnyH _ _ _ _ _ _ _ (Act.put _ (some 104) _) _
                  simp only [Act.put, List.setIfInBounds_toArray, List.set_cons_zero, List.set_cons_succ]
                  refine wpAnyH_ready (rs := [7]) (by kernel_rfl) (by simp) ?_
                  refine AllReadyH.cons rfl (fun K hK => ?_) AllReadyH.nil
                  go_simp
                  refine (HDU.out _).mono ?_
                  rintro e w' ⟨rfl, m1, rfl⟩
                  go_simp
                  refine hK.out _ _ hHeld (fun hHeld => ?_)
                  clear hK K
                  refine wpAnyH_take (i := 8) (v := .string V3) rfl (by kernel_rfl) (by kernel_rfl) (by kernel_rfl) (fun _ _ _ h => h) (Or.inl ⟨by rfl, ?_⟩) (by assumption) ?_
                  · intro w hSw
                    go_simp
                  show wpAnyH _ _ _ _ _ _ _ (Act.put _ (some 106) _) _
                  simp only [Act.put, List.setIfInBounds_toArray, List.set_cons_zero, List.set_cons_succ]
                  refine wpAnyH_take (i := 9) (v := .string V4) rfl (by kernel_rfl) (by kernel_rfl) (by kernel_rfl) (fun _ _ _ h => h) (Or.inl ⟨by rfl, ?_⟩) (by assumption) ?_
                  · intro w hSw
                    go_simp
                  show wpAnyH _ _ _ _ _ _ _ (Act.put _ (some 107) _) _
                  simp only [Act.put, List.setIfInBounds_toArray, List.set_cons_zero, List.set_cons_succ]
                  refine wpAnyH_take (i := 10) (v := .string V4) rfl (by kernel_rfl) (by kernel_rfl) (by kernel_rfl) (fun _ _ _ h => h) (Or.inl ⟨by rfl, ?_⟩) (by assumption) ?_
                  · intro w hSw
                    go_simp
                  show wpAnyH _ _ _ _ _ _ _ (Act.put _ (some 3) _) _
                  simp only [Act.put, List.setIfInBounds_toArray, List.set_cons_zero, List.set_cons_succ]
                  refine wpAnyH_done (by kernel_rfl) ?_ _
                  obtain ⟨U1, hU1⟩ : ∃ U, U = U0.drewN m1 := ⟨_, rfl⟩
                  have HB4 := Lib.hid (show Below W0.heap.size W0 U1 from by rw [hU1]; exact below_dr HB3.out _)
                  have g2 : U1.cell? ⟨wr.heap.size, 2, none⟩ = some (.slice p.kA p.kinds.length p.kc) := by rw [hU1]; exact hHeld.2.2
                  rw [← hU1]
                  clear hU1 hHeld hV1 hV2 hV3 hV4
                  go_wp2_with fail
                  go_loopw [3, 111] (fun sv jv Y => ∃ j : Nat, j ≤ p.kinds.length ∧ jv = .int .i64 j ∧ sv = .string (bs (FL ++ Lib.join (wordsK p j) [32])) ∧ Below W0.heap.size W0 Y) (fun _ jv _ => p.kinds.length - (intOf jv).toNat)
                  case atStart => exact ⟨0, Nat.zero_le _, rfl, congrArg Value.string HV4.out, HB4.out⟩
                  case round =>
                    clear g2
                    obtain ⟨j, hj, rfl, rfl, hb5⟩ := hrel
                    have HB5 := Lib.hid hb5
                    obtain ⟨S2, hS2⟩ : ∃ S, S = bs (FL ++ Lib.join (wordsK p j) [32]) := ⟨_, rfl⟩
                    have hs2 : S2.size ≤ 1010000 := by
                      have := words_le HOK.out j
                      rw [hS2, bs_size, List.length_append]
                      omega
                    by_cases hjt : j < p.kinds.length
                    · obtain ⟨z, hz⟩ : ∃ z, p.kinds[j]? = some z := ⟨p.kinds[j], by simp⟩
                      have hkb := HOK.out.2.2.2 z (List.mem_of_getElem? hz)
                      obtain ⟨⟨-, -, -, -, -, -, -, yk⟩, -⟩ := (H0.out.2.2.1.pl.below hb5) k p HT.out
                      obtain ⟨b', o', hAk, _, hcz⟩ := yk.int hz
                      have HKD := Lib.hid (fun W => kindR_any z hkb W)
                      have hkn : (bs (kindName z)).size ≤ 20 := by rw [bs_size]; exact name20 _
                      obtain ⟨KN, hKN⟩ : ∃ K, K = bs (kindName z) := ⟨_, rfl⟩
                      have hct : S2 ++ ((⟨#[32]⟩ : ByteArray) ++ KN) = bs (FL ++ Lib.join (wordsK p (j + 1)) [32]) := by
                        rw [hS2, hKN, wordsK_succ hz, join_snoc' (by simp [wordsK]), ← List.append_assoc, show (⟨#[32]⟩ : ByteArray) = bs [32] from rfl]
                        simp only [bs_append]
                      have HCT2 := Lib.hid hct
                      rw [← hKN] at HKD hkn
                      rw [hAk, ← hS2]
                      clear hz hAk hkb hb5 yk hct hS2 hKN
                      go_wp2_with fail
                      refine (HKD.out _).mono ?_
                      rintro e w' ⟨rfl, hb6⟩
                      have HB6 := Lib.hid (HB5.out.trans (hb6.mono HB5.out.size))
                      clear hb6 hcz
                      go_wp2_with fail
                      go_roundw
                      case rel => exact ⟨j + 1, by omega, by go_num, congrArg Value.string HCT2.out, HB6.out⟩
                      case measure => simp [intOf]; omega
                    · have hjj : j = p.kinds.length := by omega
                      subst hjj
                      have hct : S2 ++ (⟨#[10]⟩ : ByteArray) = bs (acc Le planW c.pl (k + 1)).flatten := by
                        rw [hS2, wordsK_all, acc_next HT.out, ← HFLL.out.1, show (⟨#[10]⟩ : ByteArray) = bs [10] from rfl]
                        simp only [bs_append]
                        unfold lineT
                        rw [List.append_assoc]
                      have HCT2 := Lib.hid hct
                      rw [← hS2]
                      clear hS2 hb5 hct
                      go_wp2_with fail
                      go_roundw
                      case rel => exact ⟨k + 1, by omega, by go_num, congrArg Value.string HCT2.out, HB5.out⟩
                      case measure => simp [intOf]; omega
                · have hkk : k = c.pl.length := by omega
                  subst hkk
                  clear hlt hss
                  have HFF := Lib.hid (And.intro hFL hfl)
                  have HBg := Lib.hid hb
                  rw [← hFL]
                  have hrow9 := (hb.block w.heap.size H0.out.2.2.2.1).trans H0.out.2.2.2.2
                  clear hFL hfl hb hS
                  have hds : defPs.length = 10 := rfl
                  have HN1 := Lib.hid (fun W => show Calls Tryz.prog 30 #[.agg defCfg.cells.toArray] W (RetSl W defPs) from numbersR_any W defCfg rfl)
                  have HN2 := Lib.hid (fun W => numbersR_any W c H0.out.2.2.1.ten)
                  have HD := Lib.hid (defaultR_any wr)
                  have HLN := Lib.hid (And.intro hds H0.out.2.2.1.ten)
                  have hsz : (Tryz.prog.info? 27).map (·.size) = some c.cells.toArray.size := by
                    have h15 : c.cells.toArray.size = 15 := by simp [Cfg.cells, H0.out.2.2.1.ten]
                    have k15 : (Tryz.prog.info? 27).map (·.size) = some 15 := by kernel_rfl
                    rw [h15, k15]
                  obtain ⟨X1, hX1⟩ : ∃ X, X = defCfg.cells.toArray := ⟨_, rfl⟩
                  obtain ⟨X2, hX2⟩ : ∃ X, X = c.cells.toArray := ⟨_, rfl⟩
                  rw [← hX1] at HN1 HD
                  rw [← hX2] at HN2 hrow9 hsz
                  clear hX1 hX2 hds
                  go_wp2_with fail
                  refine HD.out.mono ?_
                  rintro e W5 ⟨rfl, hb5⟩
                  have row5 := (hb5.block w.heap.size (Nat.lt_of_lt_of_le H0.out.2.2.2.1 HBg.out.size)).trans hrow9
                  have HB5 := Lib.hid (HBg.out.trans (hb5.mono HBg.out.size))
                  clear hb5 hrow9 HD
                  go_wp2_with fail
                  refine (HN1.out _).mono ?_
                  rintro e W6 ⟨A6, c6, rfl, sl6, hb6⟩
                  rw [HLN.out.1]
                  have row6 := (hb6.block w.heap.size (Nat.lt_of_lt_of_le H0.out.2.2.2.1 HB5.out.size)).trans row5
                  have HB6 := Lib.hid (HB5.out.trans (hb6.mono HB5.out.size))
                  have HS6 := Lib.hid sl6
                  clear hb6 row5 HN1 sl6
                  go_wp2_with (refine wpList_load_row rfl 27 (.tmp 1) rfl w.heap.size rfl 27 X2 (0, 0) _ row6 Tryz.underlying27 rfl hsz ?_)
                  refine (HN2.out _).mono ?_
                  rintro e W7 ⟨A7, c7, rfl, sl7, hb7⟩
                  rw [HLN.out.2]
                  have HS7 := Lib.hid (And.intro (HS6.out.below hb7) sl7)
                  have HB7 := Lib.hid (HB6.out.trans (hb7.mono HB6.out.size))
                  have HZ67 := Lib.hid hb7.size
                  clear hb7 row6 HN2 HS6 sl7
                  go_wp2_with fail
                  go_loopw [3, 129] (fun sv i Y => ∃ k : Nat, k ≤ 10 ∧ i = .int .i64 k ∧ sv = .string (bs (FL ++ ((parLs c.ps k).map lineT).flatten)) ∧ Below W7.heap.size W7 Y) (fun _ i _ => 10 - (intOf i).toNat)
                  case atStart => exact ⟨0, by omega, rfl, by simp [parLs], Below.refl _ _⟩
                  case round =>
                    obtain ⟨k, hk, rfl, rfl, hb⟩ := hrel
                    have HB := Lib.hid hb
                    obtain ⟨S, hS⟩ : ∃ S, S = bs (FL ++ ((parLs c.ps k).map lineT).flatten) := ⟨_, rfl⟩
                    have hss : S.size ≤ 1010000 := by
                      have := pars_flat HFI.out hk
                      have := HFF.out.2
                      rw [hS, bs_size, List.length_append]
                      omega
                    by_cases hlt : k < 10
                    · have hlt' : (k : Int) < 10 := by omega
                      obtain ⟨z, hz⟩ : ∃ z, c.ps[k]? = some z := ⟨c.ps[k]'(by rw [HLN.out.2]; exact hlt), by simp⟩
                      obtain ⟨zd, hzd⟩ : ∃ z, defPs[k]? = some z := ⟨_, List.getElem?_eq_getElem (l := defPs) (show k < defPs.length from hlt)⟩
                      have hzr := HFI.out.par hlt hz
                      obtain ⟨b1, o1, hA1, _, q1⟩ := (HS7.out.1.below (hb.mono (HZ67.out))).int hzd
                      obtain ⟨b2, o2, hA2, _, q2⟩ := (HS7.out.2.below hb).int hz
                      by_cases hzz : z = zd
                      · subst hzz
                        have e0 : (z != z) = false := by simp
                        have HNX := Lib.hid (show S = bs (FL ++ ((parLs c.ps (k + 1)).map lineT).flatten) from by rw [hS, parLs_succ hz, if_pos hzd, List.append_nil])
                        rw [hA1, hA2, ← hS]
                        clear hS hz hzd hA1 hA2 hb
                        go_wp2_with fail
                        go_roundw
                        case rel => exact ⟨k + 1, by omega, by go_num, congrArg Value.string HNX.out, HB.out⟩
                        case measure => simp [intOf]; omega
                      · have e0 : (z != zd) = true := by simp [hzz]
                        have HDZ := Lib.hid (fun W => digits_any z ⟨by omega, by omega⟩ W)
                        have hdz : (bs (dec z)).size ≤ 20 := by rw [bs_size]; exact dec_len (by omega)
                        have hnl : (parNm k).size ≤ 40 := by have := parNm_len k hlt; simpa using this
                        have hct := par_line (Lf := FL) hz hzd hzz
                        rw [← hS] at hct
                        have HWD := Lib.hid (fun W => wordsR_any W)
                        obtain ⟨NM, hNM⟩ : ∃ x, x = parNm k := ⟨_, rfl⟩
                        obtain ⟨DZ, hDZ⟩ : ∃ x, x = bs (dec z) := ⟨_, rfl⟩
                        rw [← hNM] at hct hnl
                        rw [← hDZ] at hct hdz HDZ
                        have HNM := Lib.hid hNM
                        have HCT := Lib.hid hct
                        rw [hA1, hA2, ← hS]
                        clear hS hz hzd hA1 hA2 hb hzz hct hNM hDZ
                        go_wp2_with fail
                        obtain ⟨V1, hV1⟩ : ∃ V, V = NM ++ (⟨#[32]⟩ : ByteArray) := ⟨_, rfl⟩
                        have zV1 : V1.size ≤ 41 := by rw [hV1, ByteArray.size_append]; first | omega | (show _ + 1 ≤ _; omega)
                        have nV1 : ¬ 9223372036854775807 < NM.size + 1 := by omega
                        replace hV1 := hV1.symm
                        obtain ⟨V2, hV2⟩ : ∃ V, V = V1 ++ DZ := ⟨_, rfl⟩
                        have zV2 : V2.size ≤ 61 := by rw [hV2, ByteArray.size_append]; first | omega | (show _ + 1 ≤ _; omega)
                        have nV2 : ¬ 9223372036854775807 < V1.size + DZ.size := by omega
                        replace hV2 := hV2.symm
                        obtain ⟨V3, hV3⟩ : ∃ V, V = V2 ++ (⟨#[10]⟩ : ByteArray) := ⟨_, rfl⟩
                        have zV3 : V3.size ≤ 62 := by rw [hV3, ByteArray.size_append]; first | omega | (show _ + 1 ≤ _; omega)
                        have nV3 : ¬ 9223372036854775807 < V2.size + 1 := by omega
                        replace hV3 := hV3.symm
                        obtain ⟨V4, hV4⟩ : ∃ V, V = S ++ V3 := ⟨_, rfl⟩
                        have zV4 : V4.size ≤ 1010062 := by rw [hV4, ByteArray.size_append]; first | omega | (show _ + 1 ≤ _; omega)
                        have nV4 : ¬ 9223372036854775807 < S.size + V3.size := by omega
                        replace hV4 := hV4.symm
                        have HV4 := Lib.hid (show V4 = bs (FL ++ ((parLs c.ps (k + 1)).map lineT).flatten) from by rw [← HCT.out, ← hV4, ← hV3, ← hV2, ← hV1]; rfl)
                        refine wp_region_held_drew (S := fun _ => True) (by kernel_rfl) trivial (fun _ => ?_)
                        have HB3 := Lib.hid (show Below W7.heap.size W7 wr.drew from HB.out.drew)
                        obtain ⟨U0, hU0⟩ : ∃ U, U = wr.drew := ⟨_, rfl⟩
                        rw [← hU0] at HB3 ⊢
                        clear hU0
                        refine wpAnyH_take (i := 0) (v := .string S) rfl (by kernel_rfl) (by kernel_rfl) (by kernel_rfl) (fun _ _ _ h => h) (Or.inl ⟨by rfl, ?_⟩) (by assumption) ?_
                        · intro w hSw
                          go_simp
                        show wpAnyH _ _ _ _ _ _ _ (Act.put _ (some 140) _) _
                        simp only [Act.put, List.setIfInBounds_toArray, List.set_cons_zero, List.set_cons_succ]
                        refine wpAnyH_take (i := 2) (v := .int .i64 (k : Int)) rfl (by kernel_rfl) (by kernel_rfl) (by kernel_rfl) (fun _ _ _ h => h) (Or.inl ⟨by rfl, ?_⟩) (by assumption) ?_
                        · intro w hSw
                          go_simp
                        show wpAnyH _ _ _ _ _ _ _ (Act.put _ (some 142) _) _
                        simp only [Act.put, List.setIfInBounds_toArray, List.set_cons_zero, List.set_cons_succ]
                        refine wpAnyH_take (i := 6) (v := .int .i64 z) rfl (by kernel_rfl) (by kernel_rfl) (by kernel_rfl) (fun _ _ _ h => h) (Or.inl ⟨by rfl, ?_⟩) (by assumption) ?_
                        · intro w hSw
                          go_simp
                        show wpAnyH _ _ _ _ _ _ _ (Act.put _ (some 146) _) _
                        simp only [Act.put, List.setIfInBounds_toArray, List.set_cons_zero, List.set_cons_succ]
                        refine wpAnyH_ready (rs := [1]) (by kernel_rfl) (by simp) ?_
                        refine AllReadyH.cons rfl (fun K hK => ?_) AllReadyH.nil
                        go_simp
                        refine (HWD.out _).mono ?_
                        rintro e U1 ⟨g, rfl, hg1, hg2, hgc, hb8⟩
                        have qn := hgc k hlt
                        rw [← HNM.out] at qn
                        have HB4 := Lib.hid (HB3.out.trans (hb8.mono HB3.out.size))
                        clear hgc hb8 hg1 hg2
                        go_simp
                        refine hK.out _ _ trivial (fun hHeld => ?_)
                        clear hK K
                        refine wpAnyH_strong (S2 := fun Y => Y.cell? ⟨g, k, none⟩ = some (.string NM)) (fun _ _ => trivial) _ _ _ _ ?_
                        refine wpAnyH_take (i := 3) (v := .pointer (some ⟨g, k, none⟩)) rfl (by kernel_rfl) (by kernel_rfl) (by kernel_rfl) (fun _ _ _ h => h) (Or.inl ⟨by rfl, ?_⟩) (by assumption) ?_
                        · intro w hSw
                          go_simp
                        show wpAnyH _ _ _ _ _ _ _ (Act.put _ (some 143) _) _
                        simp only [Act.put, List.setIfInBounds_toArray, List.set_cons_zero, List.set_cons_succ]
                        refine wpAnyH_take (i := 4) (v := .string NM) rfl (by kernel_rfl) (by kernel_rfl) (by kernel_rfl) (fun _ _ _ h => h) (Or.inl ⟨by rfl, ?_⟩) (by assumption) ?_
                        · intro w hSw
                          have s0 := hSw
                          go_simp
                        show wpAnyH _ _ _ _ _ _ _ (Act.put _ (some 144) _) _
                        simp only [Act.put, List.setIfInBounds_toArray, List.set_cons_zero, List.set_cons_succ]
                        refine wpAnyH_take (i := 5) (v := .string V1) rfl (by kernel_rfl) (by kernel_rfl) (by kernel_rfl) (fun _ _ _ h => h) (Or.inl ⟨by rfl, ?_⟩) (by assumption) ?_
                        · intro w hSw
                          go_simp
                        show wpAnyH _ _ _ _ _ _ _ (Act.put _ (some 145) _) _
                        simp only [Act.put, List.setIfInBounds_toArray, List.set_cons_zero, List.set_cons_succ]
                        refine wpAnyH_ready (rs := [7]) (by kernel_rfl) (by simp) ?_
                        refine AllReadyH.cons rfl (fun K hK => ?_) AllReadyH.nil
                        go_simp
                        refine (HDZ.out _).mono ?_
                        rintro e w' ⟨rfl, m1, rfl⟩
                        go_simp
                        refine hK.out _ _ qn (fun hHeld => ?_)
                        clear hK K
                        refine wpAnyH_take (i := 8) (v := .string V2) rfl (by kernel_rfl) (by kernel_rfl) (by kernel_rfl) (fun _ _ _ h => h) (Or.inl ⟨by rfl, ?_⟩) (by assumption) ?_
                        · intro w hSw
                          go_simp
                        show wpAnyH _ _ _ _ _ _ _ (Act.put _ (some 148) _) _
                        simp only [Act.put, List.setIfInBounds_toArray, List.set_cons_zero, List.set_cons_succ]
                        refine wpAnyH_take (i := 9) (v := .string V3) rfl (by kernel_rfl) (by kernel_rfl) (by kernel_rfl) (fun _ _ _ h => h) (Or.inl ⟨by rfl, ?_⟩) (by assumption) ?_
                        · intro w hSw
                          go_simp
                        show wpAnyH _ _ _ _ _ _ _ (Act.put _ (some 149) _) _
                        simp only [Act.put, List.setIfInBounds_toArray, List.set_cons_zero, List.set_cons_succ]
                        refine wpAnyH_take (i := 10) (v := .string V4) rfl (by kernel_rfl) (by kernel_rfl) (by kernel_rfl) (fun _ _ _ h => h) (Or.inl ⟨by rfl, ?_⟩) (by assumption) ?_
                        · intro w hSw
                          go_simp
                        show wpAnyH _ _ _ _ _ _ _ (Act.put _ (some 150) _) _
                        simp only [Act.put, List.setIfInBounds_toArray, List.set_cons_zero, List.set_cons_succ]
                        refine wpAnyH_take (i := 11) (v := .string V4) rfl (by kernel_rfl) (by kernel_rfl) (by kernel_rfl) (fun _ _ _ h => h) (Or.inl ⟨by rfl, ?_⟩) (by assumption) ?_
                        · intro w hSw
                          go_simp
                        show wpAnyH _ _ _ _ _ _ _ (Act.put _ (some 3) _) _
                        simp only [Act.put, List.setIfInBounds_toArray, List.set_cons_zero, List.set_cons_succ]
                        refine wpAnyH_done (by kernel_rfl) ?_ _
                        clear hV1 hV2 hV3 hV4 qn
                        go_wp2_with fail
                        go_roundw
                        case rel => exact ⟨k + 1, by omega, by go_num, congrArg Value.string HV4.out, below_dr HB4.out _⟩
                        case measure => simp [intOf]; omega
                    · have hkk : k = 10 := by omega
                      subst hkk
                      have htx := text_of (c := c) HLb.out HLc.out HLd.out HLe.out rfl
                      rw [join_none, List.flatten_append, ← HFF.out.1] at htx
                      rw [htx] at hS
                      have HSS := Lib.hid hS
                      rw [htx, ← hS]
                      have HBE := Lib.hid (H0.out.1.trans ((HB7.out.trans (hb.mono HB7.out.size)).mono H0.out.1.size))
                      clear hS hb htx
                      go_wp2_with fail
                      go_ret
                      exact ⟨ret_s HSS.out, HBE.out⟩
end Go.Proofs.YtloacoalmfaceaaGreatDoor
