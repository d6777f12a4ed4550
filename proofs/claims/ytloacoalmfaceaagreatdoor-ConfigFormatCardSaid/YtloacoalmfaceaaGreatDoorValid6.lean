/-
  config.Validate.
-/
import Derived.Test.YtloacoalmfaceaaGreatDoorParV
namespace Go.Proofs.YtloacoalmfaceaaGreatDoor
open Go.RowKit Go.Shelf

/-- the closure that Validate hands to ContainsFunc. -/
theorem notIdx_any (z cen : Int) (cb : Nat) (w : World) (hc : w.cell? ⟨cb, 0, none⟩ = some (.int .i64 cen)) : Calls Tryz.prog 21 #[.int .i64 z, .pointer (some ⟨cb, 0, none⟩)] w fun e w' => e = .returned (.bool (!tb (Idx z cen))) ∧ w' = w := by
  have HX := Lib.hid (isIndex_any z cen w)
  obtain ⟨b, hb⟩ : ∃ b, b = tb (Idx z cen) := ⟨_, rfl⟩
  rw [← hb] at HX ⊢
  clear hb
  go_enter Tryz.func21, Tryz.ntmps21
  go_wp2_with fail
  refine HX.out.mono ?_
  rintro e w' ⟨rfl, hw⟩
  rw [hw]
  clear hw w'
  go_wp2_with fail
  go_ret
  exact ⟨ret_bool (by simp), rfl⟩
noncomputable def badFrom (cen : Int) : Nat → List Int → Int
  | _, [] => -1
  | k, z :: r => if tb (Idx z cen) then badFrom cen (k + 1) r else k
theorem bad_iff (cen : Int) : ∀ (zs : List Int) (k : Nat), 0 ≤ badFrom cen k zs ↔ ¬ ∀ z ∈ zs, Idx z cen
  | [], k => by simp [badFrom]
  | z :: r, k => by
    rw [badFrom]
    by_cases h : Idx z cen
    · rw [tb_true h, if_pos rfl, bad_iff cen r]
      simp [h]
    · rw [tb_false h]
      simp [h]
theorem tb_not {P : Prop} : tb (¬ P) = !tb P := by
  by_cases h : P
  · rw [tb_true h, tb_false (fun k => k h)]; rfl
  · rw [tb_false h, tb_true h]; rfl
set_option maxRecDepth 100000 in
set_option maxHeartbeats 1000000 in
theorem indexBad_any (A : Option Addr) (cp : Nat) (zs : List Int) (cen : Int) (cb : Nat) (w : World) (h : Sl w w.heap.size A (zs.map (Value.int .i64))) (hl : zs.length ≤ 1099511627) (hc : w.cell? ⟨cb, 0, none⟩ = some (.int .i64 cen)) :
    Calls Tryz.prog 48 #[.slice A zs.length cp, .func (.func 21) #[] #[.pointer (some ⟨cb, 0, none⟩)]] w fun e w' => e = .returned (.int .i64 (badFrom cen 0 zs)) ∧ w' = w := by
  have HH := Lib.hid (And.intro h hc)
  obtain ⟨m, hm⟩ : ∃ m, m = zs.length := ⟨_, rfl⟩
  have HM := Lib.hid hm
  rw [← hm] at hl ⊢
  clear h hm hc
  go_enter Tryz.func48, Tryz.ntmps48
  go_wp2_with fail
  go_loopw [8] (fun iv X => ∃ k : Nat, k ≤ m ∧ iv = .int .i64 k ∧ w = X ∧ badFrom cen 0 zs = badFrom cen k (zs.drop k)) (fun i _ => m - (intOf i).toNat)
  case atStart => exact ⟨0, Nat.zero_le _, rfl, rfl, rfl⟩
  case round =>
    obtain ⟨k, hk, rfl, rfl, hc⟩ := hrel
    by_cases hlt : k < m
    · have hkj : (k : Int) < (m : Int) := by omega
      obtain ⟨z, hz⟩ : ∃ z, zs[k]? = some z := ⟨zs[k]'(by have := HM.out; omega), by simp⟩
      obtain ⟨b, o, rfl, _, q⟩ := HH.out.1.int hz
      have hd : zs.drop k = z :: zs.drop (k + 1) := by
        obtain ⟨h1, h2⟩ := List.getElem?_eq_some_iff.1 hz
        rw [List.drop_eq_getElem_cons h1, h2]
      rw [hd, badFrom] at hc
      have HX := Lib.hid (notIdx_any z cen cb w HH.out.2)
      cases hb : tb (Idx z cen)
      · rw [hb] at hc HX
        have HC := Lib.hid hc
        clear hb hc hd hz
        go_wp2_with fail
        refine HX.out.mono ?_
        rintro e w' ⟨rfl, hw⟩
        rw [hw]
        clear hw w'
        go_wp2_with fail
        go_ret
        exact ⟨ret_int (by have := HC.out; simpa using this.symm), rfl⟩
      · rw [hb] at hc HX
        have HC := Lib.hid hc
        clear hb hc hd hz
        go_wp2_with fail
        refine HX.out.mono ?_
        rintro e w' ⟨rfl, hw⟩
        rw [hw]
        clear hw w'
        go_wp2_with fail
        go_roundw
        case rel => exact ⟨k + 1, by omega, by go_num, trivial, by have := HC.out; simpa using this⟩
        case measure => simp [intOf]; omega
    · have hkk : k = m := by omega
      subst hkk
      have HC := Lib.hid hc
      clear hc
      go_wp2_with fail
      go_ret
      refine ⟨ret_int ?_, rfl⟩
      rw [HC.out, List.drop_eq_nil_of_le (by have := HM.out; omega)]
      rfl
theorem anyBad_any (A : Option Addr) (cp : Nat) (zs : List Int) (cen : Int) (cb : Nat) (w : World) (h : Sl w w.heap.size A (zs.map (Value.int .i64))) (hl : zs.length ≤ 1099511627) (hc : w.cell? ⟨cb, 0, none⟩ = some (.int .i64 cen)) :
    Calls Tryz.prog 20 #[.slice A zs.length cp, .func (.func 21) #[] #[.pointer (some ⟨cb, 0, none⟩)]] w fun e w' => e = .returned (.bool (!tb (∀ z ∈ zs, Idx z cen))) ∧ w' = w := by
  have HX := Lib.hid (indexBad_any A cp zs cen cb w h hl hc)
  have hi := bad_iff cen zs 0
  obtain ⟨i, hii⟩ : ∃ i, i = badFrom cen 0 zs := ⟨_, rfl⟩
  rw [← hii] at HX hi
  have HI := Lib.hid hi
  clear hii hi h hc hl
  by_cases h0 : 0 ≤ i
  · have hn := tb_false (HI.out.1 h0)
    rw [hn]
    clear hn
    go_enter Tryz.func20, Tryz.ntmps20
    go_wp2_with fail
    refine HX.out.mono ?_
    rintro e w' ⟨rfl, hw⟩
    rw [hw]
    clear hw w'
    go_wp2_with fail
    go_ret
    exact ⟨ret_bool (by simp), rfl⟩
  · have hn : tb (∀ z ∈ zs, Idx z cen) = true := tb_true (Classical.not_not.1 (fun k => h0 (HI.out.2 k)))
    rw [hn]
    clear hn
    go_enter Tryz.func20, Tryz.ntmps20
    go_wp2_with fail
    refine HX.out.mono ?_
    rintro e w' ⟨rfl, hw⟩
    rw [hw]
    clear hw w'
    go_wp2_with fail
    go_ret
    exact ⟨ret_bool (by simp; omega), rfl⟩
theorem cfgIn_new (w : World) (c : Cfg) (ty : TypeId) : CfgIn (w.alloc (.cells c.cells.toArray ty)) w.heap.size c := fun j u hj => by
  rw [World.cell?_alloc_at (hn := rfl)]
  simpa using hj
/-- sizes that the walks ask of a configuration. -/
structure CfgSz (c : Cfg) : Prop where
  ds : c.ds.length ≤ 1099511627
  es : c.es.length ≤ 1099511627
  us : c.us.length ≤ 1099511627
  pl : c.pl.length ≤ 1099511627
  pc : c.pl.length ≤ c.pc
  ks : ∀ p ∈ c.pl, p.kinds.length ≤ 9223372036854775807
theorem prob_1 {c : Cfg} (n : ¬ (1 ≤ c.cen ∧ c.cen ≤ 9)) : problem c = 1 := by
  unfold problem
  rw [if_pos n]
theorem prob_2 {c : Cfg} (a1 : (1 ≤ c.cen ∧ c.cen ≤ 9)) (n : ¬ (1 ≤ c.ds.length ∧ c.ds.length ≤ 4096)) : problem c = 2 := by
  unfold problem
  rw [if_neg (not_not_intro a1), if_pos n]
theorem prob_3 {c : Cfg} (a1 : (1 ≤ c.cen ∧ c.cen ≤ 9)) (a2 : (1 ≤ c.ds.length ∧ c.ds.length ≤ 4096)) (n : ¬ (∀ d ∈ c.ds, Idx d c.cen)) : problem c = 3 := by
  unfold problem
  rw [if_neg (not_not_intro a1), if_neg (not_not_intro a2), if_pos n]
theorem prob_4 {c : Cfg} (a1 : (1 ≤ c.cen ∧ c.cen ≤ 9)) (a2 : (1 ≤ c.ds.length ∧ c.ds.length ≤ 4096)) (a3 : (∀ d ∈ c.ds, Idx d c.cen)) (n : ¬ ((∀ e ∈ c.es, EdgeOk c.ds.length e) ∧ c.es.length ≤ 16384)) : problem c = 4 := by
  unfold problem
  rw [if_neg (not_not_intro a1), if_neg (not_not_intro a2), if_neg (not_not_intro a3), if_pos n]
theorem prob_5 {c : Cfg} (a1 : (1 ≤ c.cen ∧ c.cen ≤ 9)) (a2 : (1 ≤ c.ds.length ∧ c.ds.length ≤ 4096)) (a3 : (∀ d ∈ c.ds, Idx d c.cen)) (a4 : ((∀ e ∈ c.es, EdgeOk c.ds.length e) ∧ c.es.length ≤ 16384)) (n : ¬ ((∀ u ∈ c.us, UnitOk c.cen c.ds.length u) ∧ c.us.length ≤ 256)) : problem c = 5 := by
  unfold problem
  rw [if_neg (not_not_intro a1), if_neg (not_not_intro a2), if_neg (not_not_intro a3), if_neg (not_not_intro a4), if_pos n]
theorem prob_6 {c : Cfg} (a1 : (1 ≤ c.cen ∧ c.cen ≤ 9)) (a2 : (1 ≤ c.ds.length ∧ c.ds.length ≤ 4096)) (a3 : (∀ d ∈ c.ds, Idx d c.cen)) (a4 : ((∀ e ∈ c.es, EdgeOk c.ds.length e) ∧ c.es.length ≤ 16384)) (a5 : ((∀ u ∈ c.us, UnitOk c.cen c.ds.length u) ∧ c.us.length ≤ 256)) (n : ¬ (PlansOk c.pl)) : problem c = 6 := by
  unfold problem
  rw [if_neg (not_not_intro a1), if_neg (not_not_intro a2), if_neg (not_not_intro a3), if_neg (not_not_intro a4), if_neg (not_not_intro a5), if_pos n]
theorem prob_7 {c : Cfg} (a1 : (1 ≤ c.cen ∧ c.cen ≤ 9)) (a2 : (1 ≤ c.ds.length ∧ c.ds.length ≤ 4096)) (a3 : (∀ d ∈ c.ds, Idx d c.cen)) (a4 : ((∀ e ∈ c.es, EdgeOk c.ds.length e) ∧ c.es.length ≤ 16384)) (a5 : ((∀ u ∈ c.us, UnitOk c.cen c.ds.length u) ∧ c.us.length ≤ 256)) (a6 : (PlansOk c.pl)) (n : ¬ (ParsTo c.ps 10)) : problem c = 7 := by
  unfold problem
  rw [if_neg (not_not_intro a1), if_neg (not_not_intro a2), if_neg (not_not_intro a3), if_neg (not_not_intro a4), if_neg (not_not_intro a5), if_neg (not_not_intro a6), if_pos n]
theorem prob_0 {c : Cfg} (a1 : (1 ≤ c.cen ∧ c.cen ≤ 9)) (a2 : (1 ≤ c.ds.length ∧ c.ds.length ≤ 4096)) (a3 : (∀ d ∈ c.ds, Idx d c.cen)) (a4 : ((∀ e ∈ c.es, EdgeOk c.ds.length e) ∧ c.es.length ≤ 16384)) (a5 : ((∀ u ∈ c.us, UnitOk c.cen c.ds.length u) ∧ c.us.length ≤ 256)) (a6 : (PlansOk c.pl)) (a7 : (ParsTo c.ps 10)) : problem c = 0 := by
  unfold problem
  rw [if_neg (not_not_intro a1), if_neg (not_not_intro a2), if_neg (not_not_intro a3), if_neg (not_not_intro a4), if_neg (not_not_intro a5), if_neg (not_not_intro a6), if_neg (not_not_intro a7)]
set_option maxRecDepth 100000 in
set_option maxHeartbeats 4000000 in
theorem validate_any (w : World) (c : Cfg) (hc : CfgAt w w.heap.size c) (hs : CfgSz c) :
    Calls Tryz.prog 10 #[.agg c.cells.toArray] w fun e w' => e = .returned (.int .i64 (problem c)) ∧ Below w.heap.size w w' := by
  have hi := cfgIn_new w c 27
  have hb0 : Below w.heap.size w (w.alloc (.cells c.cells.toArray 27)) := (Below.refl _ _).alloc (Nat.le_refl _) _
  obtain ⟨W0, hW0⟩ : ∃ W0, W0 = w.alloc (.cells c.cells.toArray 27) := ⟨_, rfl⟩
  have hz0 : w.heap.size < W0.heap.size := by rw [hW0]; simp
  rw [← hW0] at hi hb0
  obtain ⟨c0, c1, c2, c3, c4⟩ := hi.five
  have H0 := Lib.hid (And.intro hb0 (And.intro hi (And.intro ((hc.below hb0).more hb0.size) hz0)))
  have HS := Lib.hid hs
  obtain ⟨X, hX⟩ : ∃ X, X = c.cells.toArray := ⟨_, rfl⟩
  rw [← hX] at hW0 ⊢
  have x0 : X[0]? = some (.int .i64 c.cen) := by rw [hX]; rfl
  have x1 : X[1]? = some (.slice c.dA c.ds.length c.dc) := by rw [hX]; rfl
  obtain ⟨P, hP⟩ : ∃ P, P = problem c := ⟨_, rfl⟩
  have HP := Lib.hid hP
  rw [← hP]
  clear hi hb0 hc hs hz0 c0 c1 c2 c3 c4 hX hP
  by_cases h1 : 1 ≤ c.cen
  · have d1 : decide (c.cen < 1) = false := decide_eq_false (by omega)
    by_cases h2 : c.cen ≤ 9
    · have d2 : decide ((9 : Int) < c.cen) = false := decide_eq_false (by omega)
      by_cases h3 : 1 ≤ c.ds.length
      · have d3 : decide ((c.ds.length : Int) < 1) = false := decide_eq_false (by omega)
        by_cases h4 : c.ds.length ≤ 4096
        · have d4 : decide ((4096 : Int) < (c.ds.length : Int)) = false := decide_eq_false (by omega)
          have HQ := Lib.hid (And.intro (And.intro h1 h2) (And.intro h3 h4))
          go_enter Tryz.func10, Tryz.ntmps10
          go_wp2_with fail
          rw [← hW0]
          clear hW0 x0 x1 d1 d2 d3 d4 h1 h2 h3 h4
          by_cases h : (∀ d ∈ c.ds, Idx d c.cen)
          · have a3 := Lib.hid h
            refine (anyBad_any c.dA c.dc c.ds c.cen w.heap.size W0 H0.out.2.2.1.ds HS.out.ds (H0.out.2.1.five).1).mono ?_
            rintro e w' ⟨rfl, hw⟩
            rw [hw, tb_true a3.out]
            clear hw w' h
            go_wp2_with fail
            by_cases h : ((∀ e ∈ c.es, EdgeOk c.ds.length e) ∧ c.es.length ≤ 16384)
            · have a4 := Lib.hid h
              refine (validEdges_any W0 w.heap.size c H0.out.2.1 H0.out.2.2.1 H0.out.2.2.2 HS.out.es).mono ?_
              rintro e w2 ⟨rfl, hb⟩
              rw [tb_true a4.out]
              have B2 := Lib.hid hb
              clear hb h
              go_wp2_with fail
              by_cases h : ((∀ u ∈ c.us, UnitOk c.cen c.ds.length u) ∧ c.us.length ≤ 256)
              · have a5 := Lib.hid h
                refine (validUnits_any w2 w.heap.size c (H0.out.2.1.below B2.out H0.out.2.2.2) ((H0.out.2.2.1.below B2.out).more B2.out.size) (Nat.lt_of_lt_of_le H0.out.2.2.2 B2.out.size) HS.out.us).mono ?_
                rintro e w3 ⟨rfl, hb⟩
                rw [tb_true a5.out]
                have B3 := Lib.hid (B2.out.trans (hb.mono B2.out.size))
                clear hb h
                go_wp2_with fail
                by_cases h : (PlansOk c.pl)
                · have a6 := Lib.hid h
                  refine (validPlans_any w3 w.heap.size c (H0.out.2.1.below B3.out H0.out.2.2.2) ((H0.out.2.2.1.below B3.out).more B3.out.size) (Nat.lt_of_lt_of_le H0.out.2.2.2 B3.out.size) HS.out.pl HS.out.pc HS.out.ks).mono ?_
                  rintro e w4 ⟨rfl, hb⟩
                  rw [tb_true a6.out]
                  have B4 := Lib.hid (B3.out.trans (hb.mono B3.out.size))
                  clear hb h
                  go_wp2_with fail
                  by_cases h : (ParsTo c.ps 10)
                  · have a7 := Lib.hid h
                    refine (validParameters_any w4 w.heap.size c (H0.out.2.1.below B4.out H0.out.2.2.2) H0.out.2.2.1.ten (Nat.lt_of_lt_of_le H0.out.2.2.2 B4.out.size)).mono ?_
                    rintro e w5 ⟨rfl, hb⟩
                    rw [tb_true a7.out]
                    have B5 := Lib.hid (B4.out.trans (hb.mono B4.out.size))
                    clear hb h
                    go_wp2_with fail
                    go_ret
                    exact ⟨ret_int (by rw [HP.out, prob_0 HQ.out.1 HQ.out.2 a3.out a4.out a5.out a6.out a7.out]; rfl), H0.out.1.trans (B5.out.mono H0.out.1.size)⟩
                  · have a7 := Lib.hid h
                    refine (validParameters_any w4 w.heap.size c (H0.out.2.1.below B4.out H0.out.2.2.2) H0.out.2.2.1.ten (Nat.lt_of_lt_of_le H0.out.2.2.2 B4.out.size)).mono ?_
                    rintro e w5 ⟨rfl, hb⟩
                    rw [tb_false a7.out]
                    have B5 := Lib.hid (B4.out.trans (hb.mono B4.out.size))
                    clear hb h
                    go_wp2_with fail
                    go_ret
                    exact ⟨ret_int (by rw [HP.out, prob_7 HQ.out.1 HQ.out.2 a3.out a4.out a5.out a6.out a7.out]; rfl), H0.out.1.trans (B5.out.mono H0.out.1.size)⟩
                · have a6 := Lib.hid h
                  refine (validPlans_any w3 w.heap.size c (H0.out.2.1.below B3.out H0.out.2.2.2) ((H0.out.2.2.1.below B3.out).more B3.out.size) (Nat.lt_of_lt_of_le H0.out.2.2.2 B3.out.size) HS.out.pl HS.out.pc HS.out.ks).mono ?_
                  rintro e w4 ⟨rfl, hb⟩
                  rw [tb_false a6.out]
                  have B4 := Lib.hid (B3.out.trans (hb.mono B3.out.size))
                  clear hb h
                  go_wp2_with fail
                  go_ret
                  exact ⟨ret_int (by rw [HP.out, prob_6 HQ.out.1 HQ.out.2 a3.out a4.out a5.out a6.out]; rfl), H0.out.1.trans (B4.out.mono H0.out.1.size)⟩
              · have a5 := Lib.hid h
                refine (validUnits_any w2 w.heap.size c (H0.out.2.1.below B2.out H0.out.2.2.2) ((H0.out.2.2.1.below B2.out).more B2.out.size) (Nat.lt_of_lt_of_le H0.out.2.2.2 B2.out.size) HS.out.us).mono ?_
                rintro e w3 ⟨rfl, hb⟩
                rw [tb_false a5.out]
                have B3 := Lib.hid (B2.out.trans (hb.mono B2.out.size))
                clear hb h
                go_wp2_with fail
                go_ret
                exact ⟨ret_int (by rw [HP.out, prob_5 HQ.out.1 HQ.out.2 a3.out a4.out a5.out]; rfl), H0.out.1.trans (B3.out.mono H0.out.1.size)⟩
            · have a4 := Lib.hid h
              refine (validEdges_any W0 w.heap.size c H0.out.2.1 H0.out.2.2.1 H0.out.2.2.2 HS.out.es).mono ?_
              rintro e w2 ⟨rfl, hb⟩
              rw [tb_false a4.out]
              have B2 := Lib.hid hb
              clear hb h
              go_wp2_with fail
              go_ret
              exact ⟨ret_int (by rw [HP.out, prob_4 HQ.out.1 HQ.out.2 a3.out a4.out]; rfl), H0.out.1.trans (B2.out.mono H0.out.1.size)⟩
          · have a3 := Lib.hid h
            refine (anyBad_any c.dA c.dc c.ds c.cen w.heap.size W0 H0.out.2.2.1.ds HS.out.ds (H0.out.2.1.five).1).mono ?_
            rintro e w' ⟨rfl, hw⟩
            rw [hw, tb_false a3.out]
            clear hw w' h
            go_wp2_with fail
            go_ret
            exact ⟨ret_int (by rw [HP.out, prob_3 HQ.out.1 HQ.out.2 a3.out]; rfl), H0.out.1⟩
        · have d4 : decide ((4096 : Int) < (c.ds.length : Int)) = true := decide_eq_true (by omega)
          have HQ := Lib.hid (And.intro h1 h2)
          have HN := Lib.hid (show ¬ (1 ≤ c.ds.length ∧ c.ds.length ≤ 4096) from fun h => h4 h.2)
          go_enter Tryz.func10, Tryz.ntmps10
          go_wp2_with fail
          rw [← hW0]
          go_ret
          exact ⟨ret_int (by rw [HP.out, prob_2 HQ.out HN.out]; rfl), H0.out.1⟩
      · have d3 : decide ((c.ds.length : Int) < 1) = true := decide_eq_true (by omega)
        have HQ := Lib.hid (And.intro h1 h2)
        have HN := Lib.hid (show ¬ (1 ≤ c.ds.length ∧ c.ds.length ≤ 4096) from fun h => h3 h.1)
        go_enter Tryz.func10, Tryz.ntmps10
        go_wp2_with fail
        rw [← hW0]
        go_ret
        exact ⟨ret_int (by rw [HP.out, prob_2 HQ.out HN.out]; rfl), H0.out.1⟩
    · have d2 : decide ((9 : Int) < c.cen) = true := decide_eq_true (by omega)
      have HN := Lib.hid (show ¬ (1 ≤ c.cen ∧ c.cen ≤ 9) from fun h => h2 h.2)
      go_enter Tryz.func10, Tryz.ntmps10
      go_wp2_with fail
      rw [← hW0]
      go_ret
      exact ⟨ret_int (by rw [HP.out, prob_1 HN.out]; rfl), H0.out.1⟩
  · have d1 : decide (c.cen < 1) = true := decide_eq_true (by omega)
    have HN := Lib.hid (show ¬ (1 ≤ c.cen ∧ c.cen ≤ 9) from fun h => h1 h.1)
    go_enter Tryz.func10, Tryz.ntmps10
    go_wp2_with fail
    rw [← hW0]
    go_ret
    exact ⟨ret_int (by rw [HP.out, prob_1 HN.out]; rfl), H0.out.1⟩
end Go.Proofs.YtloacoalmfaceaaGreatDoor
