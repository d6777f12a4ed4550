/-
  samaritanref06.Same (printed by gensame6.py).
-/
import Derived.Test.YtloacoalmfaceaaGreatDoorEqC6
import Derived.Deep.RegionHeld3
import Derived.Deep.MidRow
namespace Go.Proofs.YtloacoalmfaceaaGreatDoor
open Go.RowKit Go.Maps Go.Shelf

theorem same_all {α : Type} {l m : List α} {n : Nat} (h : l.take n = m.take n) (hl : l.length = n) (hm : m.length = n) : l = m := by
  rw [List.take_of_length_le (by omega), List.take_of_length_le (by omega)] at h
  exact h
theorem two_at (w : World) (u v : Array Value) (t t' : TypeId) : (∀ (j : Nat) (x : Value), u[j]? = some x → ((w.alloc (.cells u t)).alloc (.cells v t')).drew.cell? ⟨w.heap.size, j, none⟩ = some x) ∧ (∀ (j : Nat) (x : Value), v[j]? = some x → ((w.alloc (.cells u t)).alloc (.cells v t')).drew.cell? ⟨w.heap.size + 1, j, none⟩ = some x) := by
  refine ⟨fun j x h => ?_, fun j x h => ?_⟩
  · show ((w.alloc (.cells u t)).alloc (.cells v t')).cell? ⟨w.heap.size, j, none⟩ = some x
    rw [World.cell?_alloc_lt _ _ _ (by simp), World.cell?_alloc_at (hn := rfl)]
    exact h
  · show ((w.alloc (.cells u t)).alloc (.cells v t')).cell? ⟨w.heap.size + 1, j, none⟩ = some x
    rw [World.cell?_alloc_at (hn := by simp)]
    exact h
set_option maxRecDepth 100000 in
set_option maxHeartbeats 8000000 in
theorem sameC_any (w : World) (c d : Cfg) (hc : CfgAt w w.heap.size c) (hd : CfgAt w w.heap.size d) (sc : CfgSz c) (sd : CfgSz d) :
    Calls Tryz.prog 15 #[.agg c.cells.toArray, .agg d.cells.toArray] w fun e w' => e = .returned (.bool (tb (SameCfg c d))) ∧ Below w.heap.size w w' := by
  obtain ⟨W0, hW0⟩ : ∃ W0, W0 = (w.alloc (.cells c.cells.toArray 27)).alloc (.cells d.cells.toArray 27) := ⟨_, rfl⟩
  have hb0 : Below w.heap.size w W0 := by rw [hW0]; exact ((Below.refl _ _).alloc (Nat.le_refl _) _).alloc (by simp) _
  have hic : CfgIn W0 w.heap.size c := by
    rw [hW0]
    exact (cfgIn_new w c _).below (((Below.refl _ _).alloc (Nat.le_refl _) _)) (by simp)
  have hid : CfgIn W0 (w.heap.size + 1) d := by
    rw [hW0]
    have h := cfgIn_new (w.alloc (.cells c.cells.toArray 27)) d 27
    simpa using h
  have hz0 : W0.heap.size = w.heap.size + 2 := by rw [hW0]; simp
  have H0 := Lib.hid (And.intro hb0 (And.intro hic (And.intro hid (And.intro hz0 (And.intro ((hc.below hb0).more hb0.size) ((hd.below hb0).more hb0.size))))))
  obtain ⟨X, hX⟩ : ∃ X, X = c.cells.toArray := ⟨_, rfl⟩
  obtain ⟨Y, hY⟩ : ∃ X, X = d.cells.toArray := ⟨_, rfl⟩
  have x0 : X[0]? = some (.int .i64 c.cen) := by rw [hX]; rfl
  have x1 : X[1]? = some (.slice c.dA c.ds.length c.dc) := by rw [hX]; rfl
  have x2 : X[2]? = some (.slice c.eA c.es.length c.ec) := by rw [hX]; rfl
  have x3 : X[3]? = some (.slice c.uA c.us.length c.uc) := by rw [hX]; rfl
  have x4 : X[4]? = some (.slice c.pA c.pl.length c.pc) := by rw [hX]; rfl
  have y0 : Y[0]? = some (.int .i64 d.cen) := by rw [hY]; rfl
  have y1 : Y[1]? = some (.slice d.dA d.ds.length d.dc) := by rw [hY]; rfl
  have y2 : Y[2]? = some (.slice d.eA d.es.length d.ec) := by rw [hY]; rfl
  have y3 : Y[3]? = some (.slice d.uA d.us.length d.uc) := by rw [hY]; rfl
  have y4 : Y[4]? = some (.slice d.pA d.pl.length d.pc) := by rw [hY]; rfl
  rw [← hX, ← hY] at hW0 ⊢
  have HS := Lib.hid (And.intro sc sd)
  clear hc hd hb0 hic hid hz0 sc sd hX hY
  by_cases h0 : c.cen = d.cen
  · have e0 : (c.cen != d.cen) = false := by simp [h0]
    have L0 := Lib.hid h0
    clear h0
    by_cases h1 : c.ds.length = d.ds.length
    · have e1 : ((c.ds.length : Int) != (d.ds.length : Int)) = false := by simp [h1]
      have L1 := Lib.hid h1
      clear h1
      by_cases h2 : c.es.length = d.es.length
      · have e2 : ((c.es.length : Int) != (d.es.length : Int)) = false := by simp [h2]
        have L2 := Lib.hid h2
        clear h2
        by_cases h3 : c.us.length = d.us.length
        · have e3 : ((c.us.length : Int) != (d.us.length : Int)) = false := by simp [h3]
          have L3 := Lib.hid h3
          clear h3
          by_cases h4 : c.pl.length = d.pl.length
          · have e4 : ((c.pl.length : Int) != (d.pl.length : Int)) = false := by simp [h4]
            have L4 := Lib.hid h4
            clear h4
            go_enter Tryz.func15, Tryz.ntmps15
            go_wp2_with fail
            rw [← hW0]
            clear hW0 x0 x1 x2 x3 x4 y0 y1 y2 y3 y4 e0 e1 e2 e3 e4
            obtain ⟨c0, c1, c2, c3, c4⟩ := H0.out.2.1.five
            obtain ⟨d0, d1, d2, d3, d4⟩ := H0.out.2.2.1.five
            go_wp2_with fail
            have hlen1 := HS.out.1.ds
            go_loopw [59] (fun i wr => ∃ k : Nat, k ≤ c.ds.length ∧ i = .int .i64 k ∧ c.ds.take k = d.ds.take k ∧ ∃ n, wr = W0.drewN n) (fun i _ => c.ds.length - (intOf i).toNat)
            case atStart => exact ⟨0, Nat.zero_le _, rfl, rfl, 0, rfl⟩
            case round =>
              obtain ⟨k, hk, rfl, htk, n, rfl⟩ := hrel
              have HTK := Lib.hid htk
              clear htk
              by_cases hlt : k < c.ds.length
              · have hlt2 : k < d.ds.length := by rw [← L1.out]; exact hlt
                obtain ⟨z, hz⟩ : ∃ z, c.ds[k]? = some z := ⟨c.ds[k], by simp⟩
                obtain ⟨y, hy⟩ : ∃ y, d.ds[k]? = some y := ⟨d.ds[k], by simp⟩
                have HZ := Lib.hid hz
                have HY := Lib.hid hy
                obtain ⟨b, o, hA, hbb, hcell⟩ := H0.out.2.2.2.2.1.ds.int hz
                obtain ⟨b2, o2, hA2, hbb2, hcell2⟩ := H0.out.2.2.2.2.2.ds.int hy
                rw [hA] at c1
                rw [hA2] at d1
                clear hz hy hA hA2
                by_cases hzy : z = y
                · subst hzy
                  have hb1 : (z != z) = false := by simp
                  have HT2 : Hid (c.ds.take (k + 1) = d.ds.take (k + 1)) := by show _ = _; rw [take_snoc' HZ.out, take_snoc' HY.out, HTK.out]
                  clear HZ HY
                  go_wp2_with fail
                  go_quiet (fail)
                  go_wp2_with fail
                  go_roundw
                  case rel => exact ⟨k + 1, by omega, by go_num, HT2.out, _, rfl⟩
                  case measure => simp [intOf]; omega
                · have hb1 : (z != y) = true := by simp [hzy]
                  have hb2 : (z == y) = false := by simp [hzy]
                  have HNE : Hid (¬ c.ds = d.ds) := by
                    intro e
                    have hz := HZ.out
                    rw [e] at hz
                    exact hzy (Option.some.inj (hz.symm.trans HY.out))
                  clear HZ HY
                  go_wp2_with fail
                  go_quiet (fail)
                  go_wp2_with fail
                  go_ret
                  exact ⟨ret_no (fun h => HNE.out h.2.2.1), below_dr (below_dr H0.out.1 _) _⟩
              · have hkk : k = c.ds.length := by omega
                subst hkk
                have E1 : Hid (c.ds = d.ds) := same_all HTK.out rfl L1.out.symm
                clear HTK hlen1
                go_wp2_with fail
                have hlen2 := HS.out.1.es
                go_loopw [77] (fun i wr => ∃ k : Nat, k ≤ c.es.length ∧ i = .int .i64 k ∧ c.es.take k = d.es.take k ∧ ∃ n, wr = W0.drewN n) (fun i _ => c.es.length - (intOf i).toNat)
                case atStart => exact ⟨0, Nat.zero_le _, rfl, rfl, _, rfl⟩
                case round =>
                  obtain ⟨k, hk, rfl, htk, n, rfl⟩ := hrel
                  have HTK := Lib.hid htk
                  clear htk
                  by_cases hlt : k < c.es.length
                  · have hlt2 : k < d.es.length := by rw [← L2.out]; exact hlt
                    obtain ⟨z, hz⟩ : ∃ z, c.es[k]? = some z := ⟨c.es[k], by simp⟩
                    obtain ⟨y, hy⟩ : ∃ y, d.es[k]? = some y := ⟨d.es[k], by simp⟩
                    have HZ := Lib.hid hz
                    have HY := Lib.hid hy
                    obtain ⟨b, o, hA, hbb, q0, q1, q2⟩ := rec3_at H0.out.2.2.2.2.1.es hz
                    obtain ⟨b2, o2, hA2, hbb2, r0, r1, r2⟩ := rec3_at H0.out.2.2.2.2.2.es hy
                    obtain ⟨x0, x1, x2, rfl⟩ : ∃ a b c, z = ⟨a, b, c⟩ := ⟨z.a, z.b, z.c, rfl⟩
                    obtain ⟨y0, y1, y2, rfl⟩ : ∃ a b c, y = ⟨a, b, c⟩ := ⟨y.a, y.b, y.c, rfl⟩
                    dsimp only at q0 q1 q2 r0 r1 r2
                    rw [hA] at c2
                    rw [hA2] at d2
                    clear hz hy hA hA2
                    by_cases h0 : x0 = y0
                    · subst h0
                      have g0 : (x0 == x0) = true := by simp
                      by_cases h1 : x1 = y1
                      · subst h1
                        have g1 : (x1 == x1) = true := by simp
                        by_cases h2 : x2 = y2
                        · subst h2
                          have g2 : (x2 == x2) = true := by simp
                          have HT2 : Hid (c.es.take (k + 1) = d.es.take (k + 1)) := by show _ = _; rw [take_snoc' HZ.out, take_snoc' HY.out, HTK.out]
                          clear HZ HY
                          go_wp2_with fail
                          go_quiet (fail)
                          go_wp2_with fail
                          go_roundw
                          case rel => exact ⟨k + 1, by omega, by go_num, HT2.out, _, rfl⟩
                          case measure => simp [intOf]; omega
                        · have g2 : (x2 == y2) = false := by simp [h2]
                          have HNE : Hid (¬ c.es = d.es) := by
                            intro e
                            have hz := HZ.out
                            rw [e] at hz
                            exact h2 (congrArg T3.c (Option.some.inj (hz.symm.trans HY.out)))
                          clear HZ HY
                          go_wp2_with fail
                          go_quiet (fail)
                          go_wp2_with fail
                          go_ret
                          exact ⟨ret_no (fun h => HNE.out h.2.2.2.1), below_dr (below_dr H0.out.1 _) _⟩
                      · have g1 : (x1 == y1) = false := by simp [h1]
                        have HNE : Hid (¬ c.es = d.es) := by
                          intro e
                          have hz := HZ.out
                          rw [e] at hz
                          exact h1 (congrArg T3.b (Option.some.inj (hz.symm.trans HY.out)))
                        clear HZ HY
                        go_wp2_with fail
                        go_quiet (fail)
                        go_wp2_with fail
                        go_ret
                        exact ⟨ret_no (fun h => HNE.out h.2.2.2.1), below_dr (below_dr H0.out.1 _) _⟩
                    · have g0 : (x0 == y0) = false := by simp [h0]
                      have HNE : Hid (¬ c.es = d.es) := by
                        intro e
                        have hz := HZ.out
                        rw [e] at hz
                        exact h0 (congrArg T3.a (Option.some.inj (hz.symm.trans HY.out)))
                      clear HZ HY
                      go_wp2_with fail
                      go_quiet (fail)
                      go_wp2_with fail
                      go_ret
                      exact ⟨ret_no (fun h => HNE.out h.2.2.2.1), below_dr (below_dr H0.out.1 _) _⟩
                  · have hkk : k = c.es.length := by omega
                    subst hkk
                    have E2 : Hid (c.es = d.es) := same_all HTK.out rfl L2.out.symm
                    clear HTK hlen2
                    go_wp2_with fail
                    have hlen3 := HS.out.1.us
                    go_loopw [95] (fun i wr => ∃ k : Nat, k ≤ c.us.length ∧ i = .int .i64 k ∧ c.us.take k = d.us.take k ∧ ∃ n, wr = W0.drewN n) (fun i _ => c.us.length - (intOf i).toNat)
                    case atStart => exact ⟨0, Nat.zero_le _, rfl, rfl, _, rfl⟩
                    case round =>
                      obtain ⟨k, hk, rfl, htk, n, rfl⟩ := hrel
                      have HTK := Lib.hid htk
                      clear htk
                      by_cases hlt : k < c.us.length
                      · have hlt2 : k < d.us.length := by rw [← L3.out]; exact hlt
                        obtain ⟨z, hz⟩ : ∃ z, c.us[k]? = some z := ⟨c.us[k], by simp⟩
                        obtain ⟨y, hy⟩ : ∃ y, d.us[k]? = some y := ⟨d.us[k], by simp⟩
                        have HZ := Lib.hid hz
                        have HY := Lib.hid hy
                        obtain ⟨b, o, hA, hbb, q0, q1, q2⟩ := rec3_at H0.out.2.2.2.2.1.us hz
                        obtain ⟨b2, o2, hA2, hbb2, r0, r1, r2⟩ := rec3_at H0.out.2.2.2.2.2.us hy
                        obtain ⟨x0, x1, x2, rfl⟩ : ∃ a b c, z = ⟨a, b, c⟩ := ⟨z.a, z.b, z.c, rfl⟩
                        obtain ⟨y0, y1, y2, rfl⟩ : ∃ a b c, y = ⟨a, b, c⟩ := ⟨y.a, y.b, y.c, rfl⟩
                        dsimp only at q0 q1 q2 r0 r1 r2
                        rw [hA] at c3
                        rw [hA2] at d3
                        clear hz hy hA hA2
                        by_cases h0 : x0 = y0
                        · subst h0
                          have g0 : (x0 == x0) = true := by simp
                          by_cases h1 : x1 = y1
                          · subst h1
                            have g1 : (x1 == x1) = true := by simp
                            by_cases h2 : x2 = y2
                            · subst h2
                              have g2 : (x2 == x2) = true := by simp
                              have HT2 : Hid (c.us.take (k + 1) = d.us.take (k + 1)) := by show _ = _; rw [take_snoc' HZ.out, take_snoc' HY.out, HTK.out]
                              clear HZ HY
                              go_wp2_with fail
                              go_quiet (fail)
                              go_wp2_with fail
                              go_roundw
                              case rel => exact ⟨k + 1, by omega, by go_num, HT2.out, _, rfl⟩
                              case measure => simp [intOf]; omega
                            · have g2 : (x2 == y2) = false := by simp [h2]
                              have HNE : Hid (¬ c.us = d.us) := by
                                intro e
                                have hz := HZ.out
                                rw [e] at hz
                                exact h2 (congrArg T3.c (Option.some.inj (hz.symm.trans HY.out)))
                              clear HZ HY
                              go_wp2_with fail
                              go_quiet (fail)
                              go_wp2_with fail
                              go_ret
                              exact ⟨ret_no (fun h => HNE.out h.2.2.2.2.1), below_dr (below_dr H0.out.1 _) _⟩
                          · have g1 : (x1 == y1) = false := by simp [h1]
                            have HNE : Hid (¬ c.us = d.us) := by
                              intro e
                              have hz := HZ.out
                              rw [e] at hz
                              exact h1 (congrArg T3.b (Option.some.inj (hz.symm.trans HY.out)))
                            clear HZ HY
                            go_wp2_with fail
                            go_quiet (fail)
                            go_wp2_with fail
                            go_ret
                            exact ⟨ret_no (fun h => HNE.out h.2.2.2.2.1), below_dr (below_dr H0.out.1 _) _⟩
                        · have g0 : (x0 == y0) = false := by simp [h0]
                          have HNE : Hid (¬ c.us = d.us) := by
                            intro e
                            have hz := HZ.out
                            rw [e] at hz
                            exact h0 (congrArg T3.a (Option.some.inj (hz.symm.trans HY.out)))
                          clear HZ HY
                          go_wp2_with fail
                          go_quiet (fail)
                          go_wp2_with fail
                          go_ret
                          exact ⟨ret_no (fun h => HNE.out h.2.2.2.2.1), below_dr (below_dr H0.out.1 _) _⟩
                      · have hkk : k = c.us.length := by omega
                        subst hkk
                        have E3 : Hid (c.us = d.us) := same_all HTK.out rfl L3.out.symm
                        clear HTK hlen3
                        go_wp2_with fail
                        obtain ⟨WA, hWA⟩ : ∃ x, x = W0.drewN n := ⟨_, rfl⟩
                        rw [← hWA]
                        have hlen4 := HS.out.1.pl
                        have HBA := Lib.hid (show Below W0.heap.size W0 WA from by rw [hWA]; exact below_dr (Below.refl _ _) _)
                        clear hWA c0 c1 c2 c3 c4 d0 d1 d2 d3 d4
                        go_loopw [113] (fun i V => ∃ k : Nat, k ≤ c.pl.length ∧ i = .int .i64 k ∧ Below W0.heap.size W0 V ∧ ∀ (i : Nat) (p q : Plan), i < k → c.pl[i]? = some p → d.pl[i]? = some q → SameP p q) (fun i _ => c.pl.length - (intOf i).toNat)
                        case atStart => exact ⟨0, Nat.zero_le _, rfl, HBA.out, fun i p q h => absurd h (by omega)⟩
                        case round =>
                          obtain ⟨k, hk, rfl, hb, hso⟩ := hrel
                          have HB := Lib.hid (And.intro hb hso)
                          clear hso
                          by_cases hlt : k < c.pl.length
                          · have hlt2 : k < d.pl.length := by rw [← L4.out]; exact hlt
                            obtain ⟨p, hp⟩ : ∃ z, c.pl[k]? = some z := ⟨c.pl[k], by simp⟩
                            obtain ⟨q, hq⟩ : ∃ y, d.pl[k]? = some y := ⟨d.pl[k], by simp⟩
                            have HPQ := Lib.hid (And.intro hp hq)
                            obtain ⟨⟨b, o, hA, hbb, y0, y1, y2, yk⟩, hwf⟩ := (H0.out.2.2.2.2.1.pl.below hb) k p hp
                            obtain ⟨⟨b2, o2, hC, hbb2, z0, z1, z2, zk⟩, hwf2⟩ := (H0.out.2.2.2.2.2.pl.below hb) k q hq
                            have c4 := (H0.out.2.1.below hb (by have := H0.out.2.2.2.1; omega)).five.2.2.2.2
                            have d4 := (H0.out.2.2.1.below hb (by have := H0.out.2.2.2.1; omega)).five.2.2.2.2
                            rw [hA] at c4
                            rw [hC] at d4
                            have hcw : w.heap.size + 1 < wr.heap.size := by have := hb.size; have := H0.out.2.2.2.1; omega
                            have hbw : b < wr.heap.size := Nat.lt_of_lt_of_le hbb hb.size
                            have hbw2 : b2 < wr.heap.size := Nat.lt_of_lt_of_le hbb2 hb.size
                            have HLD := Lib.hid (show ∀ V, Below wr.heap.size wr V → (V.cell? ⟨w.heap.size, 4, none⟩ = some (.slice (some ⟨b, o, none⟩) c.pl.length c.pc) ∧ V.cell? ⟨w.heap.size + 1, 4, none⟩ = some (.slice (some ⟨b2, o2, none⟩) d.pl.length d.pc) ∧ V.cell? ⟨b, o + k * 3, none⟩ = some (.string p.code) ∧ V.cell? ⟨b, o + k * 3 + 1, none⟩ = some (.int .i64 p.urg) ∧ V.cell? ⟨b, o + k * 3 + 2, none⟩ = some (.slice p.kA p.kinds.length p.kc) ∧ V.cell? ⟨b2, o2 + k * 3, none⟩ = some (.string q.code) ∧ V.cell? ⟨b2, o2 + k * 3 + 1, none⟩ = some (.int .i64 q.urg) ∧ V.cell? ⟨b2, o2 + k * 3 + 2, none⟩ = some (.slice q.kA q.kinds.length q.kc)) from fun V hV => ⟨(hV.cell (by show w.heap.size < _; omega)).trans c4, (hV.cell (by show w.heap.size + 1 < _; omega)).trans d4, (hV.cell hbw).trans y0, (hV.cell hbw).trans y1, (hV.cell hbw).trans y2, (hV.cell hbw2).trans z0, (hV.cell hbw2).trans z1, (hV.cell hbw2).trans z2⟩)
                            clear hA hC
                            go_wp2_with fail
                            refine wp_region_held_drew (S := fun X => Below wr.heap.size wr X) (by kernel_rfl) (below_dr (Below.refl _ _) 1) (fun hHeld => ?_)
                            refine wpAnyH_take (i := 0) (v := .pointer (some ⟨w.heap.size, 4, none⟩)) rfl (by kernel_rfl) (by kernel_rfl) (by kernel_rfl) (fun _ _ _ h => h) (Or.inl ⟨by rfl, ?_⟩) (by assumption) ?_
                            · intro w hSw
                              go_simp
                            show wpAnyH _ _ _ _ _ _ _ (Act.put _ (some 116) _) _
                            simp only [Act.put, List.setIfInBounds_toArray, List.set_cons_zero, List.set_cons_succ]
                            refine wpAnyH_take (i := 1) (v := .slice (some ⟨b, o, none⟩) c.pl.length c.pc) rfl (by kernel_rfl) (by kernel_rfl) (by kernel_rfl) (fun _ _ _ h => h) (Or.inl ⟨by rfl, ?_⟩) (by assumption) ?_
                            · intro w hSw
                              obtain ⟨s0, s1, s2, s3, s4, s5, s6, s7⟩ := HLD.out _ hSw
                              go_simp
                            show wpAnyH _ _ _ _ _ _ _ (Act.put _ (some 117) _) _
                            simp only [Act.put, List.setIfInBounds_toArray, List.set_cons_zero, List.set_cons_succ]
                            refine wpAnyH_take (i := 2) (v := .int .i64 (k : Int)) rfl (by kernel_rfl) (by kernel_rfl) (by kernel_rfl) (fun _ _ _ h => h) (Or.inl ⟨by rfl, ?_⟩) (by assumption) ?_
                            · intro w hSw
                              go_simp
                            show wpAnyH _ _ _ _ _ _ _ (Act.put _ (some 118) _) _
                            simp only [Act.put, List.setIfInBounds_toArray, List.set_cons_zero, List.set_cons_succ]
                            refine wpAnyH_take (i := 3) (v := .pointer (some ⟨b, o + k * 3, none⟩)) rfl (by kernel_rfl) (by kernel_rfl) (by kernel_rfl) (fun _ _ _ h => h) (Or.inl ⟨by rfl, ?_⟩) (by assumption) ?_
                            · intro w hSw
                              go_simp
                            show wpAnyH _ _ _ _ _ _ _ (Act.put _ (some 119) _) _
                            simp only [Act.put, List.setIfInBounds_toArray, List.set_cons_zero, List.set_cons_succ]
                            refine wpAnyH_take (i := 4) (v := .agg #[.string p.code, .int .i64 p.urg, .slice p.kA p.kinds.length p.kc]) rfl (by kernel_rfl) (by kernel_rfl) (by kernel_rfl) (fun _ _ _ h => h) (Or.inl ⟨by rfl, ?_⟩) (by assumption) ?_
                            · intro w hSw
                              obtain ⟨s0, s1, s2, s3, s4, s5, s6, s7⟩ := HLD.out _ hSw
                              go_simp
                            show wpAnyH _ _ _ _ _ _ _ (Act.put _ (some 120) _) _
                            simp only [Act.put, List.setIfInBounds_toArray, List.set_cons_zero, List.set_cons_succ]
                            refine wpAnyH_take (i := 5) (v := .pointer (some ⟨w.heap.size + 1, 4, none⟩)) rfl (by kernel_rfl) (by kernel_rfl) (by kernel_rfl) (fun _ _ _ h => h) (Or.inl ⟨by rfl, ?_⟩) (by assumption) ?_
                            · intro w hSw
                              go_simp
                            show wpAnyH _ _ _ _ _ _ _ (Act.put _ (some 121) _) _
                            simp only [Act.put, List.setIfInBounds_toArray, List.set_cons_zero, List.set_cons_succ]
                            refine wpAnyH_take (i := 6) (v := .slice (some ⟨b2, o2, none⟩) d.pl.length d.pc) rfl (by kernel_rfl) (by kernel_rfl) (by kernel_rfl) (fun _ _ _ h => h) (Or.inl ⟨by rfl, ?_⟩) (by assumption) ?_
                            · intro w hSw
                              obtain ⟨s0, s1, s2, s3, s4, s5, s6, s7⟩ := HLD.out _ hSw
                              go_simp
                            show wpAnyH _ _ _ _ _ _ _ (Act.put _ (some 122) _) _
                            simp only [Act.put, List.setIfInBounds_toArray, List.set_cons_zero, List.set_cons_succ]
                            refine wpAnyH_take (i := 7) (v := .int .i64 (k : Int)) rfl (by kernel_rfl) (by kernel_rfl) (by kernel_rfl) (fun _ _ _ h => h) (Or.inl ⟨by rfl, ?_⟩) (by assumption) ?_
                            · intro w hSw
                              go_simp
                            show wpAnyH _ _ _ _ _ _ _ (Act.put _ (some 123) _) _
                            simp only [Act.put, List.setIfInBounds_toArray, List.set_cons_zero, List.set_cons_succ]
                            refine wpAnyH_take (i := 8) (v := .pointer (some ⟨b2, o2 + k * 3, none⟩)) rfl (by kernel_rfl) (by kernel_rfl) (by kernel_rfl) (fun _ _ _ h => h) (Or.inl ⟨by rfl, ?_⟩) (by assumption) ?_
                            · intro w hSw
                              go_simp
                            show wpAnyH _ _ _ _ _ _ _ (Act.put _ (some 124) _) _
                            simp only [Act.put, List.setIfInBounds_toArray, List.set_cons_zero, List.set_cons_succ]
                            refine wpAnyH_take (i := 9) (v := .agg #[.string q.code, .int .i64 q.urg, .slice q.kA q.kinds.length q.kc]) rfl (by kernel_rfl) (by kernel_rfl) (by kernel_rfl) (fun _ _ _ h => h) (Or.inl ⟨by rfl, ?_⟩) (by assumption) ?_
                            · intro w hSw
                              obtain ⟨s0, s1, s2, s3, s4, s5, s6, s7⟩ := HLD.out _ hSw
                              go_simp
                            show wpAnyH _ _ _ _ _ _ _ (Act.put _ (some 125) _) _
                            simp only [Act.put, List.setIfInBounds_toArray, List.set_cons_zero, List.set_cons_succ]
                            refine wpAnyH_ready (rs := [10, 11]) (by kernel_rfl) (by simp) ?_
                            refine AllReadyH.cons rfl (fun K hK => ?_) (AllReadyH.cons rfl (fun K hK => ?_) AllReadyH.nil)
                            · go_simp
                              refine hK.out _ _ (hHeld.alloc hHeld.size _) (fun hHeld => ?_)
                              clear hK K
                              refine wpAnyH_ready (rs := [11]) (by kernel_rfl) (by simp) ?_
                              refine AllReadyH.cons rfl (fun K hK => ?_) AllReadyH.nil
                              go_simp
                              refine hK.out _ _ (hHeld.alloc hHeld.size _) (fun hHeld => ?_)
                              clear hK K
                              refine wpAnyH_ready (rs := [12]) (by kernel_rfl) (by simp) ?_
                              refine AllReadyH.cons rfl (fun K hK => ?_) AllReadyH.nil
                              go_simp
                              refine hK.out _ _ ((two_boxes wr _ _).drew) (fun hHeld => ?_)
                              clear hK K
                              refine wpAnyH_ready (rs := [13]) (by kernel_rfl) (by simp) ?_
                              refine AllReadyH.cons rfl (fun K hK => ?_) AllReadyH.nil
                              go_simp
                              refine hK.out _ _ ((two_boxes wr _ _).drew) (fun hHeld => ?_)
                              clear hK K
                              refine wpAnyH_done (by kernel_rfl) ?_ _
                              obtain ⟨V, hV⟩ : ∃ V, V = ((wr.alloc (.cells #[.string p.code, .int .i64 p.urg, .slice p.kA p.kinds.length p.kc] 43)).alloc (.cells #[.string q.code, .int .i64 q.urg, .slice q.kA q.kinds.length q.kc] 43)).drew := ⟨_, rfl⟩
                              have hbV : Below wr.heap.size wr V := by rw [hV]; exact (two_boxes wr _ _).drew
                              obtain ⟨nn, hnn⟩ : ∃ nn, nn = wr.heap.size := ⟨_, rfl⟩
                              rw [← hV, ← hnn]
                              have p0 : V.cell? ⟨nn, 0, none⟩ = some (.string p.code) := by rw [hV, hnn]; exact (two_at wr _ _ _ _).1 0 _ rfl
                              have q0 : V.cell? ⟨nn + 1, 0, none⟩ = some (.string q.code) := by rw [hV, hnn]; exact (two_at wr _ _ _ _).2 0 _ rfl
                              have p1 : V.cell? ⟨nn, 1, none⟩ = some (.int .i64 p.urg) := by rw [hV, hnn]; exact (two_at wr _ _ _ _).1 1 _ rfl
                              have q1 : V.cell? ⟨nn + 1, 1, none⟩ = some (.int .i64 q.urg) := by rw [hV, hnn]; exact (two_at wr _ _ _ _).2 1 _ rfl
                              have p2 : V.cell? ⟨nn, 2, none⟩ = some (.slice p.kA p.kinds.length p.kc) := by rw [hV, hnn]; exact (two_at wr _ _ _ _).1 2 _ rfl
                              have q2 : V.cell? ⟨nn + 1, 2, none⟩ = some (.slice q.kA q.kinds.length q.kc) := by rw [hV, hnn]; exact (two_at wr _ _ _ _).2 2 _ rfl
                              have HK := Lib.hid (And.intro (hb.trans (hbV.mono hb.size)) (And.intro (yk.below (hbV.mono hb.size)) (zk.below (hbV.mono hb.size))))
                              have hlk : p.kinds.length ≤ 9223372036854775807 := Nat.le_trans hwf.len hwf.cap
                              clear hHeld hV hbV hnn yk zk y0 y1 y2 z0 z1 z2 c4 d4 HLD hb hbw hbw2 hcw hwf hwf2 hbb hbb2 hp hq
                              by_cases g0 : p.code = q.code
                              · have e0 : (p.code.toList == q.code.toList) = true := by rw [g0]; exact beq_iff_eq.2 rfl
                                have e0' : (p.code.toList != q.code.toList) = false := by rw [bne, e0]; rfl
                                have G0 := Lib.hid g0
                                clear g0
                                by_cases g1 : p.urg = q.urg
                                · have e1 : (p.urg != q.urg) = false := by simp [g1]
                                  have G1 := Lib.hid g1
                                  clear g1
                                  by_cases g2 : p.kinds.length = q.kinds.length
                                  · have e2 : ((p.kinds.length : Int) != (q.kinds.length : Int)) = false := by simp [g2]
                                    have G2 := Lib.hid g2
                                    clear g2
                                    go_wp2_with fail
                                    go_loopw [150] (fun i U => ∃ j : Nat, j ≤ p.kinds.length ∧ i = .int .i64 j ∧ p.kinds.take j = q.kinds.take j ∧ ∃ n, U = V.drewN n) (fun i _ => p.kinds.length - (intOf i).toNat)
                                    case atStart => exact ⟨0, Nat.zero_le _, rfl, rfl, 0, rfl⟩
                                    case round =>
                                      obtain ⟨j, hj, rfl, htk, n2, rfl⟩ := hrel
                                      have HTK := Lib.hid htk
                                      clear htk
                                      by_cases hjt : j < p.kinds.length
                                      · have hjt2 : j < q.kinds.length := by rw [← G2.out]; exact hjt
                                        obtain ⟨z, hz⟩ : ∃ z, p.kinds[j]? = some z := ⟨p.kinds[j], by simp⟩
                                        obtain ⟨y, hy⟩ : ∃ y, q.kinds[j]? = some y := ⟨q.kinds[j], by simp⟩
                                        have HZ := Lib.hid hz
                                        have HY := Lib.hid hy
                                        obtain ⟨bz, oz, hAz, hbz, hcz⟩ := HK.out.2.1.int hz
                                        obtain ⟨by', oy, hAy, hby, hcy⟩ := HK.out.2.2.int hy
                                        rw [hAz] at p2
                                        rw [hAy] at q2
                                        clear hz hy hAz hAy
                                        by_cases hzy : z = y
                                        · subst hzy
                                          have hb1 : (z != z) = false := by simp
                                          have HT2 : Hid (p.kinds.take (j + 1) = q.kinds.take (j + 1)) := by show _ = _; rw [take_snoc' HZ.out, take_snoc' HY.out, HTK.out]
                                          clear HZ HY
                                          go_wp2_with fail
                                          go_quiet (fail)
                                          go_wp2_with fail
                                          go_roundw
                                          case rel => exact ⟨j + 1, by omega, by go_num, HT2.out, _, rfl⟩
                                          case measure => simp [intOf]; omega
                                        · have hb1 : (z != y) = true := by simp [hzy]
                                          have hb2 : (z == y) = false := by simp [hzy]
                                          have HNE : Hid (¬ p.kinds = q.kinds) := by
                                            intro e
                                            have hz := HZ.out
                                            rw [e] at hz
                                            exact hzy (Option.some.inj (hz.symm.trans HY.out))
                                          clear HZ HY
                                          go_wp2_with fail
                                          go_quiet (fail)
                                          go_wp2_with fail
                                          go_ret
                                          exact ⟨ret_no (fun h => HNE.out (h.2.2.2.2.2.2 k p q HPQ.out.1 HPQ.out.2).2.2), below_dr (below_dr (H0.out.1.trans (HK.out.1.mono H0.out.1.size)) _) _⟩
                                      · have hjj : j = p.kinds.length := by omega
                                        subst hjj
                                        have E4 : Hid (p.kinds = q.kinds) := same_all HTK.out rfl G2.out.symm
                                        clear HTK hlk
                                        go_wp2_with fail
                                        go_roundw
                                        case rel => exact ⟨k + 1, by omega, by go_num, below_dr HK.out.1 _, fun i p' q' hi hp' hq' => by
                                          by_cases e : i = k
                                          · rw [e] at hp' hq'
                                            rw [HPQ.out.1] at hp'
                                            rw [HPQ.out.2] at hq'
                                            injection hp' with hp'
                                            injection hq' with hq'
                                            rw [← hp', ← hq']
                                            exact ⟨G0.out, G1.out, E4.out⟩
                                          · exact HB.out.2 i p' q' (by omega) hp' hq'⟩
                                        case measure => simp [intOf]; omega
                                  · have e2 : ((p.kinds.length : Int) != (q.kinds.length : Int)) = true := by simp; omega
                                    have G2 := Lib.hid g2
                                    clear g2
                                    go_wp2_with fail
                                    go_ret
                                    exact ⟨ret_no (fun h => G2.out (congrArg List.length (h.2.2.2.2.2.2 k p q HPQ.out.1 HPQ.out.2).2.2)), H0.out.1.trans (HK.out.1.mono H0.out.1.size)⟩
                                · have e1 : (p.urg != q.urg) = true := by simp [g1]
                                  have G1 := Lib.hid g1
                                  clear g1
                                  go_wp2_with fail
                                  go_ret
                                  exact ⟨ret_no (fun h => G1.out (h.2.2.2.2.2.2 k p q HPQ.out.1 HPQ.out.2).2.1), H0.out.1.trans (HK.out.1.mono H0.out.1.size)⟩
                              · have e0 : (p.code.toList == q.code.toList) = false := by rw [beq_eq_false_iff_ne]; exact fun h => g0 (toL_inj h)
                                have e0' : (p.code.toList != q.code.toList) = true := by rw [bne, e0]; rfl
                                have G0 := Lib.hid g0
                                clear g0
                                go_wp2_with fail
                                go_ret
                                exact ⟨ret_no (fun h => G0.out (h.2.2.2.2.2.2 k p q HPQ.out.1 HPQ.out.2).1), H0.out.1.trans (HK.out.1.mono H0.out.1.size)⟩
                            · go_simp
                              refine hK.out _ _ (hHeld.alloc hHeld.size _) (fun hHeld => ?_)
                              clear hK K
                              refine wpAnyH_ready (rs := [10]) (by kernel_rfl) (by simp) ?_
                              refine AllReadyH.cons rfl (fun K hK => ?_) AllReadyH.nil
                              go_simp
                              refine hK.out _ _ (hHeld.alloc hHeld.size _) (fun hHeld => ?_)
                              clear hK K
                              refine wpAnyH_ready (rs := [12]) (by kernel_rfl) (by simp) ?_
                              refine AllReadyH.cons rfl (fun K hK => ?_) AllReadyH.nil
                              go_simp
                              refine hK.out _ _ ((two_boxes wr _ _).drew) (fun hHeld => ?_)
                              clear hK K
                              refine wpAnyH_ready (rs := [13]) (by kernel_rfl) (by simp) ?_
                              refine AllReadyH.cons rfl (fun K hK => ?_) AllReadyH.nil
                              go_simp
                              refine hK.out _ _ ((two_boxes wr _ _).drew) (fun hHeld => ?_)
                              clear hK K
                              refine wpAnyH_done (by kernel_rfl) ?_ _
                              obtain ⟨V, hV⟩ : ∃ V, V = ((wr.alloc (.cells #[.string q.code, .int .i64 q.urg, .slice q.kA q.kinds.length q.kc] 43)).alloc (.cells #[.string p.code, .int .i64 p.urg, .slice p.kA p.kinds.length p.kc] 43)).drew := ⟨_, rfl⟩
                              have hbV : Below wr.heap.size wr V := by rw [hV]; exact (two_boxes wr _ _).drew
                              obtain ⟨nn, hnn⟩ : ∃ nn, nn = wr.heap.size := ⟨_, rfl⟩
                              rw [← hV, ← hnn]
                              have p0 : V.cell? ⟨nn + 1, 0, none⟩ = some (.string p.code) := by rw [hV, hnn]; exact (two_at wr _ _ _ _).2 0 _ rfl
                              have q0 : V.cell? ⟨nn, 0, none⟩ = some (.string q.code) := by rw [hV, hnn]; exact (two_at wr _ _ _ _).1 0 _ rfl
                              have p1 : V.cell? ⟨nn + 1, 1, none⟩ = some (.int .i64 p.urg) := by rw [hV, hnn]; exact (two_at wr _ _ _ _).2 1 _ rfl
                              have q1 : V.cell? ⟨nn, 1, none⟩ = some (.int .i64 q.urg) := by rw [hV, hnn]; exact (two_at wr _ _ _ _).1 1 _ rfl
                              have p2 : V.cell? ⟨nn + 1, 2, none⟩ = some (.slice p.kA p.kinds.length p.kc) := by rw [hV, hnn]; exact (two_at wr _ _ _ _).2 2 _ rfl
                              have q2 : V.cell? ⟨nn, 2, none⟩ = some (.slice q.kA q.kinds.length q.kc) := by rw [hV, hnn]; exact (two_at wr _ _ _ _).1 2 _ rfl
                              have HK := Lib.hid (And.intro (hb.trans (hbV.mono hb.size)) (And.intro (yk.below (hbV.mono hb.size)) (zk.below (hbV.mono hb.size))))
                              have hlk : p.kinds.length ≤ 9223372036854775807 := Nat.le_trans hwf.len hwf.cap
                              clear hHeld hV hbV hnn yk zk y0 y1 y2 z0 z1 z2 c4 d4 HLD hb hbw hbw2 hcw hwf hwf2 hbb hbb2 hp hq
                              by_cases g0 : p.code = q.code
                              · have e0 : (p.code.toList == q.code.toList) = true := by rw [g0]; exact beq_iff_eq.2 rfl
                                have e0' : (p.code.toList != q.code.toList) = false := by rw [bne, e0]; rfl
                                have G0 := Lib.hid g0
                                clear g0
                                by_cases g1 : p.urg = q.urg
                                · have e1 : (p.urg != q.urg) = false := by simp [g1]
                                  have G1 := Lib.hid g1
                                  clear g1
                                  by_cases g2 : p.kinds.length = q.kinds.length
                                  · have e2 : ((p.kinds.length : Int) != (q.kinds.length : Int)) = false := by simp [g2]
                                    have G2 := Lib.hid g2
                                    clear g2
                                    go_wp2_with fail
                                    go_loopw [150] (fun i U => ∃ j : Nat, j ≤ p.kinds.length ∧ i = .int .i64 j ∧ p.kinds.take j = q.kinds.take j ∧ ∃ n, U = V.drewN n) (fun i _ => p.kinds.length - (intOf i).toNat)
                                    case atStart => exact ⟨0, Nat.zero_le _, rfl, rfl, 0, rfl⟩
                                    case round =>
                                      obtain ⟨j, hj, rfl, htk, n2, rfl⟩ := hrel
                                      have HTK := Lib.hid htk
                                      clear htk
                                      by_cases hjt : j < p.kinds.length
                                      · have hjt2 : j < q.kinds.length := by rw [← G2.out]; exact hjt
                                        obtain ⟨z, hz⟩ : ∃ z, p.kinds[j]? = some z := ⟨p.kinds[j], by simp⟩
                                        obtain ⟨y, hy⟩ : ∃ y, q.kinds[j]? = some y := ⟨q.kinds[j], by simp⟩
                                        have HZ := Lib.hid hz
                                        have HY := Lib.hid hy
                                        obtain ⟨bz, oz, hAz, hbz, hcz⟩ := HK.out.2.1.int hz
                                        obtain ⟨by', oy, hAy, hby, hcy⟩ := HK.out.2.2.int hy
                                        rw [hAz] at p2
                                        rw [hAy] at q2
                                        clear hz hy hAz hAy
                                        by_cases hzy : z = y
                                        · subst hzy
                                          have hb1 : (z != z) = false := by simp
                                          have HT2 : Hid (p.kinds.take (j + 1) = q.kinds.take (j + 1)) := by show _ = _; rw [take_snoc' HZ.out, take_snoc' HY.out, HTK.out]
                                          clear HZ HY
                                          go_wp2_with fail
                                          go_quiet (fail)
                                          go_wp2_with fail
                                          go_roundw
                                          case rel => exact ⟨j + 1, by omega, by go_num, HT2.out, _, rfl⟩
                                          case measure => simp [intOf]; omega
                                        · have hb1 : (z != y) = true := by simp [hzy]
                                          have hb2 : (z == y) = false := by simp [hzy]
                                          have HNE : Hid (¬ p.kinds = q.kinds) := by
                                            intro e
                                            have hz := HZ.out
                                            rw [e] at hz
                                            exact hzy (Option.some.inj (hz.symm.trans HY.out))
                                          clear HZ HY
                                          go_wp2_with fail
                                          go_quiet (fail)
                                          go_wp2_with fail
                                          go_ret
                                          exact ⟨ret_no (fun h => HNE.out (h.2.2.2.2.2.2 k p q HPQ.out.1 HPQ.out.2).2.2), below_dr (below_dr (H0.out.1.trans (HK.out.1.mono H0.out.1.size)) _) _⟩
                                      · have hjj : j = p.kinds.length := by omega
                                        subst hjj
                                        have E4 : Hid (p.kinds = q.kinds) := same_all HTK.out rfl G2.out.symm
                                        clear HTK hlk
                                        go_wp2_with fail
                                        go_roundw
                                        case rel => exact ⟨k + 1, by omega, by go_num, below_dr HK.out.1 _, fun i p' q' hi hp' hq' => by
                                          by_cases e : i = k
                                          · rw [e] at hp' hq'
                                            rw [HPQ.out.1] at hp'
                                            rw [HPQ.out.2] at hq'
                                            injection hp' with hp'
                                            injection hq' with hq'
                                            rw [← hp', ← hq']
                                            exact ⟨G0.out, G1.out, E4.out⟩
                                          · exact HB.out.2 i p' q' (by omega) hp' hq'⟩
                                        case measure => simp [intOf]; omega
                                  · have e2 : ((p.kinds.length : Int) != (q.kinds.length : Int)) = true := by simp; omega
                                    have G2 := Lib.hid g2
                                    clear g2
                                    go_wp2_with fail
                                    go_ret
                                    exact ⟨ret_no (fun h => G2.out (congrArg List.length (h.2.2.2.2.2.2 k p q HPQ.out.1 HPQ.out.2).2.2)), H0.out.1.trans (HK.out.1.mono H0.out.1.size)⟩
                                · have e1 : (p.urg != q.urg) = true := by simp [g1]
                                  have G1 := Lib.hid g1
                                  clear g1
                                  go_wp2_with fail
                                  go_ret
                                  exact ⟨ret_no (fun h => G1.out (h.2.2.2.2.2.2 k p q HPQ.out.1 HPQ.out.2).2.1), H0.out.1.trans (HK.out.1.mono H0.out.1.size)⟩
                              · have e0 : (p.code.toList == q.code.toList) = false := by rw [beq_eq_false_iff_ne]; exact fun h => g0 (toL_inj h)
                                have e0' : (p.code.toList != q.code.toList) = true := by rw [bne, e0]; rfl
                                have G0 := Lib.hid g0
                                clear g0
                                go_wp2_with fail
                                go_ret
                                exact ⟨ret_no (fun h => G0.out (h.2.2.2.2.2.2 k p q HPQ.out.1 HPQ.out.2).1), H0.out.1.trans (HK.out.1.mono H0.out.1.size)⟩
                          · have hkk : k = c.pl.length := by omega
                            subst hkk
                            have E4 : Hid (SamePl c.pl d.pl) := ⟨L4.out, fun i p q hi => HB.out.2 i p q (List.getElem?_eq_some_iff.1 hi).1 hi⟩
                            have c5 := (H0.out.2.1.below hb (by have := H0.out.2.2.2.1; omega))
                            have d5 := (H0.out.2.2.1.below hb (by have := H0.out.2.2.2.1; omega))
                            clear hb hlen4
                            go_wp2_with fail
                            have HC5 := Lib.hid (And.intro (show ∀ V, Below wr.heap.size wr V → V.rangeAt w.heap.size 0 c.cells from fun V hV j v hj => by rw [Nat.zero_add]; exact (c5.below hV (by have := HB.out.1.size; have := H0.out.2.2.2.1; omega)) j v hj) (show ∀ V, Below wr.heap.size wr V → V.rangeAt (w.heap.size + 1) 0 d.cells from fun V hV j v hj => by rw [Nat.zero_add]; exact (d5.below hV (by have := HB.out.1.size; have := H0.out.2.2.2.1; omega)) j v hj))
                            clear c5 d5
                            have hs1 : (Tryz.prog.info? 27).map (·.size) = some c.cells.length := by rw [show c.cells.length = 15 from by simp [Cfg.cells, H0.out.2.2.2.2.1.ten]]; kernel_rfl
                            have hs2 : (Tryz.prog.info? 27).map (·.size) = some d.cells.length := by rw [show d.cells.length = 15 from by simp [Cfg.cells, H0.out.2.2.2.2.2.ten]]; kernel_rfl
                            have HNC := Lib.hid (And.intro (fun V => numbersR_any V c H0.out.2.2.2.2.1.ten) (fun V => numbersR_any V d H0.out.2.2.2.2.2.ten))
                            have HT := Lib.hid (And.intro H0.out.2.2.2.2.1.ten H0.out.2.2.2.2.2.ten)
                            have HSS := Lib.hid (And.intro hs1 hs2)
                            clear hs1 hs2
                            obtain ⟨X1, hX1⟩ : ∃ X, X = c.cells.toArray := ⟨_, rfl⟩
                            obtain ⟨X2, hX2⟩ : ∃ X, X = d.cells.toArray := ⟨_, rfl⟩
                            have HX := Lib.hid (And.intro hX1 hX2)
                            rw [← hX1, ← hX2] at HNC
                            clear hX1 hX2
                            refine wp_region_held_drew (S := fun X => Below wr.heap.size wr X) (by kernel_rfl) (below_dr (Below.refl _ _) 1) (fun hHeld => ?_)
                            refine wpAnyH_take (i := 0) (v := .agg c.cells.toArray) rfl (by kernel_rfl) (by kernel_rfl) (by kernel_rfl) (fun _ _ _ h => h) (yieldsIf_load_mid rfl 27 (.tmp 2) rfl w.heap.size 0 rfl c.cells _ (fun V hV => HC5.out.1 V hV) Tryz.underlying27 rfl HSS.out.1) (by assumption) ?_
                            show wpAnyH _ _ _ _ _ _ _ (Act.put _ (some 166) _) _
                            rw [← HX.out.1]
                            simp only [Act.put, List.setIfInBounds_toArray, List.set_cons_zero, List.set_cons_succ]
                            refine wpAnyH_take (i := 2) (v := .agg d.cells.toArray) rfl (by kernel_rfl) (by kernel_rfl) (by kernel_rfl) (fun _ _ _ h => h) (yieldsIf_load_mid rfl 27 (.tmp 3) rfl (w.heap.size + 1) 0 rfl d.cells _ (fun V hV => HC5.out.2 V hV) Tryz.underlying27 rfl HSS.out.2) (by assumption) ?_
                            show wpAnyH _ _ _ _ _ _ _ (Act.put _ (some 168) _) _
                            rw [← HX.out.2]
                            simp only [Act.put, List.setIfInBounds_toArray, List.set_cons_zero, List.set_cons_succ]
                            refine wpAnyH_ready (rs := [1]) (by kernel_rfl) (by simp) ?_
                            refine AllReadyH.cons rfl (fun K hK => ?_) AllReadyH.nil
                            go_simp
                            refine (HNC.out.1 _).mono ?_
                            rintro e W5 ⟨A5, c5, rfl, sl5, hb5⟩
                            rw [HT.out.1]
                            go_simp
                            refine hK.out _ _ (hHeld.trans (hb5.mono hHeld.size)) (fun hHeld => ?_)
                            clear hK K
                            refine wpAnyH_ready (rs := [3]) (by kernel_rfl) (by simp) ?_
                            refine AllReadyH.cons rfl (fun K hK => ?_) AllReadyH.nil
                            go_simp
                            refine (HNC.out.2 _).mono ?_
                            rintro e W6 ⟨A6, c6, rfl, sl6, hb6⟩
                            rw [HT.out.2]
                            go_simp
                            refine hK.out _ _ (hHeld.trans (hb6.mono hHeld.size)) (fun hHeld => ?_)
                            clear hK K
                            refine wpAnyH_take (i := 4) (v := .slice A5 10 c5) rfl (by kernel_rfl) (by kernel_rfl) (by kernel_rfl) (fun _ _ _ h => h) (Or.inl ⟨by rfl, ?_⟩) (by assumption) ?_
                            · intro w hSw
                              go_simp
                            show wpAnyH _ _ _ _ _ _ _ (Act.put _ (some 12) _) _
                            simp only [Act.put, List.setIfInBounds_toArray, List.set_cons_zero, List.set_cons_succ]
                            refine wpAnyH_take (i := 5) (v := .slice A6 10 c6) rfl (by kernel_rfl) (by kernel_rfl) (by kernel_rfl) (fun _ _ _ h => h) (Or.inl ⟨by rfl, ?_⟩) (by assumption) ?_
                            · intro w hSw
                              go_simp
                            show wpAnyH _ _ _ _ _ _ _ (Act.put _ (some 13) _) _
                            simp only [Act.put, List.setIfInBounds_toArray, List.set_cons_zero, List.set_cons_succ]
                            refine wpAnyH_done (by kernel_rfl) ?_ _
                            have HS6 := Lib.hid (And.intro (sl5.below hb6) (And.intro sl6 (H0.out.1.trans ((HB.out.1.trans (hHeld.mono HB.out.1.size)).mono H0.out.1.size))))
                            clear sl5 sl6 hb5 hb6 hHeld
                            go_wp2_with fail
                            go_loopw [172] (fun i U => ∃ k : Nat, k ≤ 10 ∧ i = .int .i64 k ∧ c.ps.take k = d.ps.take k ∧ ∃ n, U = W6.drewN n) (fun i _ => 10 - (intOf i).toNat)
                            case atStart => exact ⟨0, Nat.zero_le _, rfl, rfl, 0, rfl⟩
                            case round =>
                              obtain ⟨k, hk, rfl, htk, n2, rfl⟩ := hrel
                              have HTK := Lib.hid htk
                              clear htk
                              by_cases hlt : k < 10
                              · obtain ⟨z, hz⟩ : ∃ z, c.ps[k]? = some z := ⟨c.ps[k]'(by have := HT.out.1; omega), by simp⟩
                                obtain ⟨y, hy⟩ : ∃ y, d.ps[k]? = some y := ⟨d.ps[k]'(by have := HT.out.2; omega), by simp⟩
                                have HZ := Lib.hid hz
                                have HY := Lib.hid hy
                                obtain ⟨bz, oz, hAz, hbz, hcz⟩ := HS6.out.1.int hz
                                obtain ⟨by', oy, hAy, hby, hcy⟩ := HS6.out.2.1.int hy
                                rw [hAz, hAy]
                                clear hz hy hAz hAy
                                by_cases hzy : z = y
                                · subst hzy
                                  have hb1 : (z != z) = false := by simp
                                  have HT2 : Hid (c.ps.take (k + 1) = d.ps.take (k + 1)) := by show _ = _; rw [take_snoc' HZ.out, take_snoc' HY.out, HTK.out]
                                  clear HZ HY
                                  go_wp2_with fail
                                  go_quiet (fail)
                                  go_wp2_with fail
                                  go_roundw
                                  case rel => exact ⟨k + 1, by omega, by go_num, HT2.out, _, rfl⟩
                                  case measure => simp [intOf]; omega
                                · have hb1 : (z != y) = true := by simp [hzy]
                                  have hb2 : (z == y) = false := by simp [hzy]
                                  have HNE : Hid (¬ c.ps = d.ps) := by
                                    intro e
                                    have hz := HZ.out
                                    rw [e] at hz
                                    exact hzy (Option.some.inj (hz.symm.trans HY.out))
                                  clear HZ HY
                                  go_wp2_with fail
                                  go_quiet (fail)
                                  go_wp2_with fail
                                  go_ret
                                  exact ⟨ret_no (fun h => HNE.out h.1), below_dr (below_dr HS6.out.2.2 _) _⟩
                              · have hkk : k = 10 := by omega
                                subst hkk
                                have E5 : Hid (c.ps = d.ps) := same_all HTK.out HT.out.1 HT.out.2
                                clear HTK
                                go_wp2_with fail
                                go_ret
                                exact ⟨ret_yes ⟨E5.out, L0.out, E1.out, E2.out, E3.out, E4.out⟩, below_dr HS6.out.2.2 _⟩
          · have e4 : ((c.pl.length : Int) != (d.pl.length : Int)) = true := by simp; omega
            have L4 := Lib.hid h4
            clear h4
            go_enter Tryz.func15, Tryz.ntmps15
            go_wp2_with fail
            rw [← hW0]
            go_ret
            exact ⟨ret_no (fun h => L4.out h.2.2.2.2.2.1), H0.out.1⟩
        · have e3 : ((c.us.length : Int) != (d.us.length : Int)) = true := by simp; omega
          have L3 := Lib.hid h3
          clear h3
          go_enter Tryz.func15, Tryz.ntmps15
          go_wp2_with fail
          rw [← hW0]
          go_ret
          exact ⟨ret_no (fun h => L3.out (congrArg List.length h.2.2.2.2.1)), H0.out.1⟩
      · have e2 : ((c.es.length : Int) != (d.es.length : Int)) = true := by simp; omega
        have L2 := Lib.hid h2
        clear h2
        go_enter Tryz.func15, Tryz.ntmps15
        go_wp2_with fail
        rw [← hW0]
        go_ret
        exact ⟨ret_no (fun h => L2.out (congrArg List.length h.2.2.2.1)), H0.out.1⟩
    · have e1 : ((c.ds.length : Int) != (d.ds.length : Int)) = true := by simp; omega
      have L1 := Lib.hid h1
      clear h1
      go_enter Tryz.func15, Tryz.ntmps15
      go_wp2_with fail
      rw [← hW0]
      go_ret
      exact ⟨ret_no (fun h => L1.out (congrArg List.length h.2.2.1)), H0.out.1⟩
  · have e0 : (c.cen != d.cen) = true := by simp; omega
    have L0 := Lib.hid h0
    clear h0
    go_enter Tryz.func15, Tryz.ntmps15
    go_wp2_with fail
    rw [← hW0]
    go_ret
    exact ⟨ret_no (fun h => L0.out h.2.1), H0.out.1⟩
end Go.Proofs.YtloacoalmfaceaaGreatDoor
