/-
  config.Equal.
-/
import Derived.Test.YtloacoalmfaceaaGreatDoorEqF6
namespace Go.Proofs.YtloacoalmfaceaaGreatDoor
open Go.RowKit Go.Maps Go.Shelf

def SamePl (ps qs : List Plan) : Prop := ps.length = qs.length ∧ ∀ (i : Nat) (p q : Plan), ps[i]? = some p → qs[i]? = some q → SameP p q
def SameCfg (c d : Cfg) : Prop := c.ps = d.ps ∧ c.cen = d.cen ∧ c.ds = d.ds ∧ c.es = d.es ∧ c.us = d.us ∧ SamePl c.pl d.pl
/-- the first k parameters agree. -/
def SameTo (ps qs : List Int) (k : Nat) : Prop := ps.take k = qs.take k
set_option maxRecDepth 100000 in
set_option maxHeartbeats 8000000 in
theorem equalC_any (w : World) (c d : Cfg) (hc : CfgAt w w.heap.size c) (hd : CfgAt w w.heap.size d) (sc : CfgSz c) (sd : CfgSz d) :
    Calls Tryz.prog 18 #[.agg c.cells.toArray, .agg d.cells.toArray] w fun e w' => e = .returned (.bool (tb (SameCfg c d))) ∧ Below w.heap.size w w' := by
  obtain ⟨W0, hW0⟩ : ∃ W0, W0 = (w.alloc (.cells c.cells.toArray 27)).alloc (.cells d.cells.toArray 27) := ⟨_, rfl⟩
  have hb0 : Below w.heap.size w W0 := by rw [hW0]; exact ((Below.refl _ _).alloc (Nat.le_refl _) _).alloc (by simp) _
  have hic : CfgIn W0 w.heap.size c := by
    rw [hW0]
    exact (cfgIn_new w c _).below (((Below.refl _ _).alloc (Nat.le_refl _) _)) (by simp)
  have hid : CfgIn W0 (w.heap.size + 1) d := by
    rw [hW0]
    have h := cfgIn_new (w.alloc (.cells c.cells.toArray 27)) d 27
    simpa using h
  have hz0 : W0.heap.size = w.heap.size + 2 := by rw [hW0]; simp
  have H0 := Lib.hid (And.intro hb0 (And.intro hic (And.intro hid (And.intro hz0 (And.intro ((hc.below hb0).more hb0.size) ((hd.below hb0).more hb0.size))))))
  obtain ⟨X, hX⟩ : ∃ X, X = c.cells.toArray := ⟨_, rfl⟩
  obtain ⟨Y, hY⟩ : ∃ X, X = d.cells.toArray := ⟨_, rfl⟩
  rw [← hX, ← hY] at hW0 ⊢
  have HS := Lib.hid (And.intro sc sd)
  clear hc hd hb0 hic hid hz0 sc sd hX hY
  go_enter Tryz.func18, Tryz.ntmps18
  go_wp2_with fail
  rw [← hW0]
  clear hW0
  refine (parameters_any W0).mono ?_
  rintro e w1 ⟨g, bx, rfl, hpa, hb1⟩
  have HP := Lib.hid (And.intro hpa hb1)
  clear hpa hb1
  go_wp2_with fail
  go_loopw [10] (fun i X => ∃ k : Nat, k ≤ 10 ∧ i = .int .i64 k ∧ Below w1.heap.size w1 X ∧ SameTo c.ps d.ps k) (fun i _ => 10 - (intOf i).toNat)
  case atStart => exact ⟨0, by omega, rfl, Below.refl _ _, rfl⟩
  case round =>
    obtain ⟨k, hk, rfl, hb, hso⟩ := hrel
    have hp := HP.out.1.below hb
    have HB := Lib.hid (And.intro (HP.out.2.trans (hb.mono HP.out.2.size)) (And.intro hso hb))
    clear hso
    by_cases hlt : k < 10
    · have hlt' : (k : Int) < 10 := by omega
      obtain ⟨x, hx⟩ : ∃ z, c.ps[k]? = some z := ⟨c.ps[k]'(by rw [H0.out.2.2.2.2.1.ten]; exact hlt), by simp⟩
      obtain ⟨y, hy⟩ : ∃ z, d.ps[k]? = some z := ⟨d.ps[k]'(by rw [H0.out.2.2.2.2.2.ten]; exact hlt), by simp⟩
      have hcx := (H0.out.2.1.below HB.out.1 (by have := H0.out.2.2.2.1; omega)).par hx
      have hcy := (H0.out.2.2.1.below HB.out.1 (by have := H0.out.2.2.2.1; omega)).par hy
      have HXY := Lib.hid (And.intro hx hy)
      have q0 := hp.nm k hlt
      have q1 := hp.lo k hlt
      have q2 := hp.hi k hlt
      have q3 := hp.get k hlt
      have q4 := hp.set k hlt
      have q5 := hp.fld k hlt
      have hE := get_enters k
      obtain ⟨bxk, hbx⟩ : ∃ b, b = bx k := ⟨_, rfl⟩
      have hbl := hp.lt.2 k hlt
      have HGx := Lib.hid (fun (X : World) (h1 : X.cell? ⟨bxk, 0, none⟩ = some (.func (.func (parFld k)) #[] #[])) (h2 : X.cell? ⟨w.heap.size, 5 + k, none⟩ = some (.int .i64 x)) => get_any w.heap.size bxk X k hlt x h1 h2)
      have HGy := Lib.hid (fun (X : World) (h1 : X.cell? ⟨bxk, 0, none⟩ = some (.func (.func (parFld k)) #[] #[])) (h2 : X.cell? ⟨w.heap.size + 1, 5 + k, none⟩ = some (.int .i64 y)) => get_any (w.heap.size + 1) bxk X k hlt y h1 h2)
      rw [← hbx] at q3 q4 q5 hbl
      obtain ⟨gf, hgf⟩ : ∃ f, f = parGet k := ⟨_, rfl⟩
      obtain ⟨sf, hsf⟩ : ∃ f, f = parSet k := ⟨_, rfl⟩
      obtain ⟨ff, hff⟩ : ∃ f, f = parFld k := ⟨_, rfl⟩
      obtain ⟨lo, hlo⟩ : ∃ f, f = parLow k := ⟨_, rfl⟩
      obtain ⟨hi, hhi⟩ : ∃ f, f = parHigh k := ⟨_, rfl⟩
      obtain ⟨nm, hnm⟩ : ∃ f, f = parNm k := ⟨_, rfl⟩
      rw [← hgf] at q3 hE HGx HGy
      rw [← hsf] at q4
      rw [← hff] at q5 HGx HGy
      rw [← hlo] at q1
      rw [← hhi] at q2
      rw [← hnm] at q0
      clear hgf hsf hff hlo hhi hnm hbx hx hy hp
      have hbA : Below wr.heap.size wr (freshPar wr nm lo hi gf sf bxk) := (Below.refl _ _).alloc (Nat.le_refl _) _
      have HB2 := Lib.hid (And.intro (HB.out.1.trans (hbA.mono HB.out.1.size)) (hb.trans (hbA.mono hb.size)))
      have hsz : w.heap.size + 1 < wr.heap.size := by have := HB.out.1.size; have := H0.out.2.2.2.1; omega
      have hq3 : (freshPar wr nm lo hi gf sf bxk).cell? ⟨wr.heap.size, 3, none⟩ = some (.func (.func gf) #[] #[.pointer (some ⟨bxk, 0, none⟩)]) := by simp [freshPar, go_sem]
      have HX := Lib.hid (fun n => HGx.out ((freshPar wr nm lo hi gf sf bxk).drewN n) ((hbA.cell (p := ⟨bxk, 0, none⟩) hbl).trans q5) ((hbA.cell (p := ⟨w.heap.size, 5 + k, none⟩) (by show w.heap.size < _; omega)).trans hcx))
      have HY := Lib.hid (fun n => HGy.out ((freshPar wr nm lo hi gf sf bxk).drewN n) ((hbA.cell (p := ⟨bxk, 0, none⟩) hbl).trans q5) ((hbA.cell (p := ⟨w.heap.size + 1, 5 + k, none⟩) (by show w.heap.size + 1 < _; omega)).trans hcy))
      obtain ⟨W2, hW2⟩ : ∃ W2, W2 = freshPar wr nm lo hi gf sf bxk := ⟨_, rfl⟩
      rw [← hW2] at HB2 HX HY hq3
      unfold freshPar at hW2
      clear hb hbA hcx hcy q5 HGx HGy hsz hbl
      by_cases hxy : x = y
      · have e1 : (x != y) = false := by simp [hxy]
        have HXQ := Lib.hid hxy
        clear hxy
        go_wp2_with fail
        rw [← hW2]
        clear hW2
        go_quiet (first | (refine Calls.quiet_of ((HX.out _).mono fun _ _ q => ⟨q.1, 0, q.2⟩)) | (refine Calls.quiet_of ((HY.out _).mono fun _ _ q => ⟨q.1, 0, q.2⟩)))
        go_wp2_with fail
        go_roundw
        case rel => exact ⟨k + 1, by omega, by go_num, below_dr HB2.out.2 _, by show _ = _; rw [take_snoc' HXY.out.1, take_snoc' HXY.out.2, HB.out.2.1, HXQ.out]⟩
        case measure => simp [intOf]; omega
      · have e1 : (x != y) = true := by simp [hxy]
        have HN := Lib.hid hxy
        clear hxy
        go_wp2_with fail
        rw [← hW2]
        clear hW2
        go_quiet (first | (refine Calls.quiet_of ((HX.out _).mono fun _ _ q => ⟨q.1, 0, q.2⟩)) | (refine Calls.quiet_of ((HY.out _).mono fun _ _ q => ⟨q.1, 0, q.2⟩)))
        go_wp2_with fail
        go_ret
        exact ⟨ret_no (fun h => by
          have h1 := HXY.out.1
          rw [h.1, HXY.out.2] at h1
          exact HN.out (Option.some.inj h1).symm), below_dr (H0.out.1.trans (HB2.out.1.mono H0.out.1.size)) _⟩
    · have hkk : k = 10 := by omega
      subst hkk
      have HPS : Hid (c.ps = d.ps) := by
        have h := HB.out.2.1
        unfold SameTo at h
        rw [List.take_of_length_le (by rw [H0.out.2.2.2.2.1.ten]; exact Nat.le_refl _), List.take_of_length_le (by rw [H0.out.2.2.2.2.2.ten]; exact Nat.le_refl _)] at h
        exact h
      obtain ⟨c0, c1, c2, c3, c4⟩ := (H0.out.2.1.below HB.out.1 (by have := H0.out.2.2.2.1; omega)).five
      obtain ⟨d0, d1, d2, d3, d4⟩ := (H0.out.2.2.1.below HB.out.1 (by have := H0.out.2.2.2.1; omega)).five
      have HBW := Lib.hid (H0.out.1.trans (HB.out.1.mono H0.out.1.size))
      have hcA := H0.out.2.2.2.2.1.below HP.out.2
      have hdA := H0.out.2.2.2.2.2.below HP.out.2
      have hcB := (hcA.more HP.out.2.size).below HB.out.2.2
      have hdB := (hdA.more HP.out.2.size).below HB.out.2.2
      have hcC := hcB.more HB.out.2.2.size
      have hdC := hdB.more HB.out.2.2.size
      have HE1 := Lib.hid (equalI_any c.dA d.dA c.dc d.dc c.ds d.ds wr _ _ hcC.ds hdC.ds (Nat.le_trans HS.out.1.ds (by decide)))
      have HE2 := Lib.hid (fun n => equalE_any c.eA d.eA c.ec d.ec c.es d.es (wr.drewN n) _ _ (RecsAt.drewN hcC.es n) (RecsAt.drewN hdC.es n) (Nat.le_trans HS.out.1.es (by decide)))
      have HE3 := Lib.hid (fun n => equalU_any c.uA d.uA c.uc d.uc c.us d.us (wr.drewN n) _ _ (RecsAt.drewN hcC.us n) (RecsAt.drewN hdC.us n) (Nat.le_trans HS.out.1.us (by decide)))
      have HE4 := Lib.hid (fun n => equalP_any c.pA d.pA c.pc d.pc c.pl d.pl (wr.drewN n) (hcC.pl.below (below_dr (Below.refl _ _) n)) (hdC.pl.below (below_dr (Below.refl _ _) n)) (Nat.le_trans HS.out.1.pl (by decide)))
      clear hb hp hcA hdA hcB hdB hcC hdC
      by_cases h0 : c.cen = d.cen
      · have e0 : (c.cen == d.cen) = true := by simp [h0]
        have C0 := Lib.hid h0
        clear h0
        by_cases h1 : c.ds = d.ds
        · have T1 := Lib.hid (tb_true h1)
          have C1 := Lib.hid h1
          clear h1
          by_cases h2 : c.es = d.es
          · have T2 := Lib.hid (tb_true h2)
            have C2 := Lib.hid h2
            clear h2
            by_cases h3 : c.us = d.us
            · have T3 := Lib.hid (tb_true h3)
              have C3 := Lib.hid h3
              clear h3
              go_wp2_with fail
              refine HE1.out.mono ?_
              rintro e w' ⟨rfl, n1, rfl⟩
              rw [T1.out]
              go_wp2_with fail
              refine (HE2.out _).mono ?_
              rintro e w' ⟨rfl, n2, rfl⟩
              rw [T2.out]
              go_wp2_with fail
              refine (HE3.out _).mono ?_
              rintro e w' ⟨rfl, n3, rfl⟩
              rw [T3.out]
              go_wp2_with fail
              refine (HE4.out _).mono ?_
              rintro e w' ⟨rfl, hb'⟩
              have HB' := Lib.hid ((below_dr HBW.out _).trans (hb'.mono HBW.out.size))
              clear hb'
              go_wp2_with fail
              go_ret
              exact ⟨ret_bool (tb_iff ⟨fun h => ⟨HPS.out, C0.out, C1.out, C2.out, C3.out, h⟩, fun h => h.2.2.2.2.2⟩), HB'.out⟩
            · have T3 := Lib.hid (tb_false h3)
              have C3 := Lib.hid h3
              clear h3
              go_wp2_with fail
              refine HE1.out.mono ?_
              rintro e w' ⟨rfl, n1, rfl⟩
              rw [T1.out]
              go_wp2_with fail
              refine (HE2.out _).mono ?_
              rintro e w' ⟨rfl, n2, rfl⟩
              rw [T2.out]
              go_wp2_with fail
              refine (HE3.out _).mono ?_
              rintro e w' ⟨rfl, n3, rfl⟩
              rw [T3.out]
              go_wp2_with fail
              go_ret
              exact ⟨ret_no (fun h => C3.out h.2.2.2.2.1), below_dr HBW.out _⟩
          · have T2 := Lib.hid (tb_false h2)
            have C2 := Lib.hid h2
            clear h2
            go_wp2_with fail
            refine HE1.out.mono ?_
            rintro e w' ⟨rfl, n1, rfl⟩
            rw [T1.out]
            go_wp2_with fail
            refine (HE2.out _).mono ?_
            rintro e w' ⟨rfl, n2, rfl⟩
            rw [T2.out]
            go_wp2_with fail
            go_ret
            exact ⟨ret_no (fun h => C2.out h.2.2.2.1), below_dr HBW.out _⟩
        · have T1 := Lib.hid (tb_false h1)
          have C1 := Lib.hid h1
          clear h1
          go_wp2_with fail
          refine HE1.out.mono ?_
          rintro e w' ⟨rfl, n1, rfl⟩
          rw [T1.out]
          go_wp2_with fail
          go_ret
          exact ⟨ret_no (fun h => C1.out h.2.2.1), below_dr HBW.out _⟩
      · have e0 : (c.cen == d.cen) = false := by simp [h0]
        have C0 := Lib.hid h0
        clear h0
        go_wp2_with fail
        go_ret
        exact ⟨ret_no (fun h => C0.out h.2.1), HBW.out⟩
end Go.Proofs.YtloacoalmfaceaaGreatDoor
