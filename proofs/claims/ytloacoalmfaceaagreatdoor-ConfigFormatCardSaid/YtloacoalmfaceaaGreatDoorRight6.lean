/-
  samaritanref06.Right.
-/
import Derived.Test.YtloacoalmfaceaaGreatDoorRef6C
namespace Go.Proofs.YtloacoalmfaceaaGreatDoor
open Go.RowKit

set_option maxRecDepth 100000 in
set_option maxHeartbeats 16000000 in
theorem right_any (w : World) (c : Cfg) (hc : CfgAt w w.heap.size c) (hs : CfgSz c) (hcs : ∀ p ∈ c.pl, p.code.size ≤ 9223372036854775807) :
    Calls Tryz.prog 11 #[.agg c.cells.toArray] w fun e w' => e = .returned (.int .i64 (problem c)) ∧ Below w.heap.size w w' := by
  have hi := cfgIn_new w c 27
  have hb0 : Below w.heap.size w (w.alloc (.cells c.cells.toArray 27)) := (Below.refl _ _).alloc (Nat.le_refl _) _
  have hrow := new_obj w (.cells c.cells.toArray 27)
  obtain ⟨W0, hW0⟩ : ∃ W0, W0 = w.alloc (.cells c.cells.toArray 27) := ⟨_, rfl⟩
  have hz0 : w.heap.size < W0.heap.size := by rw [hW0]; simp
  rw [← hW0] at hi hrow
  rw [← hW0] at hb0
  have H0 := Lib.hid (And.intro hb0 (And.intro hi (And.intro ((hc.below hb0).more hb0.size) hz0)))
  have HS := Lib.hid (And.intro hs hcs)
  obtain ⟨X, hX⟩ : ∃ X, X = c.cells.toArray := ⟨_, rfl⟩
  have hsz : (Tryz.prog.info? 27).map (·.size) = some X.size := by
    have h15 : X.size = 15 := by rw [hX]; simp [Cfg.cells, hc.ten]
    have k15 : (Tryz.prog.info? 27).map (·.size) = some 15 := by kernel_rfl
    rw [h15, k15]
  have x0 : X[0]? = some (.int .i64 c.cen) := by rw [hX]; rfl
  have x1 : X[1]? = some (.slice c.dA c.ds.length c.dc) := by rw [hX]; rfl
  rw [← hX] at hW0 hrow ⊢
  have HX := Lib.hid hX
  have HROW := Lib.hid (And.intro hrow hsz)
  obtain ⟨P, hP⟩ : ∃ P, P = problem c := ⟨_, rfl⟩
  have HP := Lib.hid hP
  rw [← hP]
  obtain ⟨cen, hcen⟩ : ∃ x, x = c.cen := ⟨_, rfl⟩
  obtain ⟨n, hn⟩ : ∃ x, x = c.ds.length := ⟨_, rfl⟩
  obtain ⟨q0, q1, q2, q3, q4⟩ := hi.five
  rw [← hcen] at x0 q0
  rw [← hn] at x1 q1
  have HCN := Lib.hid (And.intro hcen hn)
  have HCX := Lib.hid (And.intro x0 x1)
  have HQ0 := Lib.hid q0
  clear hi hb0 hc hs hcs hX hP hcen hn hsz hrow hz0
  by_cases h1 : 1 ≤ cen
  · have d1 : decide (cen < 1) = false := decide_eq_false (by omega)
    by_cases h2 : cen ≤ 9
    · have d2 : decide ((9 : Int) < cen) = false := decide_eq_false (by omega)
      by_cases h3 : 1 ≤ n
      · have d3 : decide ((n : Int) < 1) = false := decide_eq_false (by omega)
        by_cases h4 : n ≤ 4096
        · have d4 : decide ((4096 : Int) < (n : Int)) = false := decide_eq_false (by omega)
          have HA1 := Lib.hid (show (1 ≤ c.cen ∧ c.cen ≤ 9) from by rw [← HCN.out.1]; exact ⟨h1, h2⟩)
          have HA2 := Lib.hid (show (1 ≤ c.ds.length ∧ c.ds.length ≤ 4096) from by rw [← HCN.out.2]; exact ⟨h3, h4⟩)
          go_enter Tryz.func11, Tryz.ntmps11
          go_wp2_with fail
          rw [← hW0]
          clear hW0 x0 x1 q2 q3 q4 d1 d2 d3 d4 h1 h2 h3
          go_loopw [38] (fun iv Y => ∃ k : Nat, k ≤ n ∧ iv = .int .i64 k ∧ W0 = Y ∧ ∀ d ∈ c.ds.take k, Idx d cen) (fun i _ => n - (intOf i).toNat)
          case atStart => exact ⟨0, by omega, rfl, rfl, by simp⟩
          case round =>
            obtain ⟨k, hk, rfl, rfl, hok⟩ := hrel
            have HOK := Lib.hid hok
            clear hok
            by_cases hlt : k < n
            · have hlt' : (k : Int) < (n : Int) := by omega
              obtain ⟨z, hz⟩ : ∃ z, c.ds[k]? = some z := ⟨c.ds[k]'(by have := HCN.out.2; omega), by simp⟩
              obtain ⟨b, o, hA, _, qz⟩ := H0.out.2.2.1.ds.int hz
              rw [hA]
              have HZ := Lib.hid hz
              clear hz hA
              by_cases z0 : 0 ≤ z
              · have d5 : decide (z < 0) = false := decide_eq_false (by omega)
                by_cases z1 : z < cen
                · have d6 : decide (cen ≤ z) = false := decide_eq_false (by omega)
                  go_wp2_with fail
                  go_roundw
                  case rel => exact ⟨k + 1, by omega, by go_num, trivial, (all_take_iff HZ.out).2 ⟨HOK.out, z0, z1⟩⟩
                  case measure => simp [intOf]; omega
                · have d6 : decide (cen ≤ z) = true := decide_eq_true (by omega)
                  have HI := Lib.hid (show ¬ (∀ d ∈ c.ds, Idx d c.cen) from fun h => z1 (by rw [HCN.out.1]; exact (h z (List.mem_of_getElem? HZ.out)).2))
                  go_wp2_with fail
                  go_ret
                  exact ⟨ret_int (by rw [HP.out, prob_3 HA1.out HA2.out HI.out]; rfl), H0.out.1⟩
              · have d5 : decide (z < 0) = true := decide_eq_true (by omega)
                have HI := Lib.hid (show ¬ (∀ d ∈ c.ds, Idx d c.cen) from fun h => z0 (h z (List.mem_of_getElem? HZ.out)).1)
                go_wp2_with fail
                go_ret
                exact ⟨ret_int (by rw [HP.out, prob_3 HA1.out HA2.out HI.out]; rfl), H0.out.1⟩
            · have hkk : n = k := by omega
              subst hkk
              have HA3 := Lib.hid (show ∀ d ∈ c.ds, Idx d c.cen from by have := HOK.out; rw [← HCN.out.1]; rwa [HCN.out.2, List.take_length] at this)
              clear HOK
              obtain ⟨m, hm⟩ : ∃ m, m = c.es.length := ⟨_, rfl⟩
              have HM := Lib.hid hm
              have qs : W0.cell? ⟨w.heap.size, 2, none⟩ = some (.slice c.eA c.es.length c.ec) := (H0.out.2.1.below (Below.refl _ _) H0.out.2.2.2) 2 _ rfl
              rw [← hm] at qs
              have hml : m ≤ 1099511627 := by rw [hm]; exact HS.out.1.es
              clear hm
              go_wp2_with fail
              go_loopw [54] (fun iv Y => ∃ k : Nat, k ≤ m ∧ iv = .int .i64 k ∧ Below W0.heap.size W0 Y ∧ ∀ e ∈ c.es.take k, EdgeOk (n : Int) e) (fun i _ => m - (intOf i).toNat)
              case atStart => exact ⟨0, by omega, rfl, (Below.refl _ _), by simp⟩
              case round =>
                obtain ⟨k, hk, rfl, hb, hok⟩ := hrel
                have HBO := Lib.hid (And.intro hb hok)
                clear qs
                by_cases hlt : k < m
                · have hlt' : (k : Int) < (m : Int) := by omega
                  obtain ⟨t, ht⟩ : ∃ t, c.es[k]? = some t := ⟨c.es[k]'(by have := HM.out; omega), by simp⟩
                  obtain ⟨b, o, hA, hbb, y0, y1, y2⟩ := rec3_at (RecsAt.below H0.out.2.2.1.es hb) ht
                  rw [hA]
                  obtain ⟨f0, f1, f2⟩ := fresh3 wr t 50
                  have hbA : Below wr.heap.size wr (wr.alloc (.cells #[.int .i64 t.a, .int .i64 t.b, .int .i64 t.c] 50)) := (Below.refl _ _).alloc (Nat.le_refl _) _
                  have hrx := (hbA.block w.heap.size (Nat.lt_of_lt_of_le H0.out.2.2.2 hb.size)).trans ((hb.block w.heap.size H0.out.2.2.2).trans HROW.out.1)
                  have HB1 := Lib.hid (hb.trans (hbA.mono hb.size))
                  have HT := Lib.hid ht
                  obtain ⟨a, b', c', rfl⟩ : ∃ a b c, t = ⟨a, b, c⟩ := ⟨t.a, t.b, t.c, rfl⟩
                  dsimp only at y0 y1 y2 f0 f1 f2 HB1 hrx
                  clear hb hok ht hA hbA
                  go_wp2_with (refine wpList_load_row rfl 27 (.tmp 1) rfl w.heap.size rfl 27 X (0, 0) _ hrx Tryz.underlying27 rfl HROW.out.2 ?_)
                  refine (edgeR_any _ X HCX.out.2 a b' c').mono ?_
                  rintro e W9 ⟨rfl, hb9⟩
                  have HB9 := Lib.hid (HB1.out.trans (hb9.mono HB1.out.size))
                  clear hb9 hrx f0 f1 f2
                  by_cases hin : EdgeOk (n : Int) ⟨a, b', c'⟩
                  · rw [tb_true hin]
                    have HI := Lib.hid hin
                    clear hin
                    go_wp2_with fail
                    go_roundw
                    case rel => exact ⟨k + 1, by omega, by go_num, HB9.out, (all_take_iff HT.out).2 ⟨HBO.out.2, HI.out⟩⟩
                    case measure => simp [intOf]; omega
                  · rw [tb_false hin]
                    have HI := Lib.hid (show ¬ ((∀ e ∈ c.es, EdgeOk c.ds.length e) ∧ c.es.length ≤ 16384) from fun h => hin (by have := h.1 _ (List.mem_of_getElem? HT.out); rw [← HCN.out.2] at this; exact this))
                    clear hin
                    go_wp2_with fail
                    go_ret
                    exact ⟨ret_int (by rw [HP.out, prob_4 HA1.out HA2.out HA3.out HI.out]; rfl), H0.out.1.trans (HB9.out.mono H0.out.1.size)⟩
                · have hkk : k = m := by omega
                  subst hkk
                  have hall : ∀ e ∈ c.es, EdgeOk (n : Int) e := by have := HBO.out.2; rwa [HM.out, List.take_length] at this
                  have HALL := Lib.hid hall
                  have qs : wr.cell? ⟨w.heap.size, 2, none⟩ = some (.slice c.eA c.es.length c.ec) := (H0.out.2.1.below hb H0.out.2.2.2) 2 _ rfl
                  rw [← HM.out] at qs
                  obtain ⟨W2, rfl⟩ : ∃ x, x = wr := ⟨_, rfl⟩
                  have HBW2 := Lib.hid hb
                  clear hb hok hall
                  by_cases hlm : k ≤ 16384
                  · have dl : decide ((16384 : Int) < (k : Int)) = false := decide_eq_false (by omega)
                    have HA4 := Lib.hid (show ((∀ e ∈ c.es, EdgeOk c.ds.length e) ∧ c.es.length ≤ 16384) from by rw [← HM.out, ← HCN.out.2]; exact ⟨HALL.out, hlm⟩)
                    clear HALL hlm HBO HM
                    obtain ⟨m, hm⟩ : ∃ m, m = c.us.length := ⟨_, rfl⟩
                    have HM := Lib.hid hm
                    have qs : W2.cell? ⟨w.heap.size, 3, none⟩ = some (.slice c.uA c.us.length c.uc) := (H0.out.2.1.below HBW2.out H0.out.2.2.2) 3 _ rfl
                    rw [← hm] at qs
                    have hml : m ≤ 1099511627 := by rw [hm]; exact HS.out.1.us
                    clear hm
                    go_wp2_with fail
                    go_loopw [70] (fun iv Y => ∃ k : Nat, k ≤ m ∧ iv = .int .i64 k ∧ Below W0.heap.size W0 Y ∧ ∀ e ∈ c.us.take k, UnitOk cen (n : Int) e) (fun i _ => m - (intOf i).toNat)
                    case atStart => exact ⟨0, by omega, rfl, HBW2.out, by simp⟩
                    case round =>
                      obtain ⟨k, hk, rfl, hb, hok⟩ := hrel
                      have HBO := Lib.hid (And.intro hb hok)
                      clear qs
                      by_cases hlt : k < m
                      · have hlt' : (k : Int) < (m : Int) := by omega
                        obtain ⟨t, ht⟩ : ∃ t, c.us[k]? = some t := ⟨c.us[k]'(by have := HM.out; omega), by simp⟩
                        obtain ⟨b, o, hA, hbb, y0, y1, y2⟩ := rec3_at (RecsAt.below H0.out.2.2.1.us hb) ht
                        rw [hA]
                        obtain ⟨f0, f1, f2⟩ := fresh3 wr t 53
                        have hbA : Below wr.heap.size wr (wr.alloc (.cells #[.int .i64 t.a, .int .i64 t.b, .int .i64 t.c] 53)) := (Below.refl _ _).alloc (Nat.le_refl _) _
                        have hrx := (hbA.block w.heap.size (Nat.lt_of_lt_of_le H0.out.2.2.2 hb.size)).trans ((hb.block w.heap.size H0.out.2.2.2).trans HROW.out.1)
                        have HB1 := Lib.hid (hb.trans (hbA.mono hb.size))
                        have HT := Lib.hid ht
                        obtain ⟨a, b', c', rfl⟩ : ∃ a b c, t = ⟨a, b, c⟩ := ⟨t.a, t.b, t.c, rfl⟩
                        dsimp only at y0 y1 y2 f0 f1 f2 HB1 hrx
                        clear hb hok ht hA hbA
                        go_wp2_with (refine wpList_load_row rfl 27 (.tmp 1) rfl w.heap.size rfl 27 X (0, 0) _ hrx Tryz.underlying27 rfl HROW.out.2 ?_)
                        refine (unitR_any _ X HCX.out.1 HCX.out.2 a b' c').mono ?_
                        rintro e W9 ⟨rfl, hb9⟩
                        have HB9 := Lib.hid (HB1.out.trans (hb9.mono HB1.out.size))
                        clear hb9 hrx f0 f1 f2
                        by_cases hin : UnitOk cen (n : Int) ⟨a, b', c'⟩
                        · rw [tb_true hin]
                          have HI := Lib.hid hin
                          clear hin
                          go_wp2_with fail
                          go_roundw
                          case rel => exact ⟨k + 1, by omega, by go_num, HB9.out, (all_take_iff HT.out).2 ⟨HBO.out.2, HI.out⟩⟩
                          case measure => simp [intOf]; omega
                        · rw [tb_false hin]
                          have HI := Lib.hid (show ¬ ((∀ u ∈ c.us, UnitOk c.cen c.ds.length u) ∧ c.us.length ≤ 256) from fun h => hin (by have := h.1 _ (List.mem_of_getElem? HT.out); rw [← HCN.out.2, ← HCN.out.1] at this; exact this))
                          clear hin
                          go_wp2_with fail
                          go_ret
                          exact ⟨ret_int (by rw [HP.out, prob_5 HA1.out HA2.out HA3.out HA4.out HI.out]; rfl), H0.out.1.trans (HB9.out.mono H0.out.1.size)⟩
                      · have hkk : k = m := by omega
                        subst hkk
                        have hall : ∀ e ∈ c.us, UnitOk cen (n : Int) e := by have := HBO.out.2; rwa [HM.out, List.take_length] at this
                        have HALL := Lib.hid hall
                        have qs : wr.cell? ⟨w.heap.size, 3, none⟩ = some (.slice c.uA c.us.length c.uc) := (H0.out.2.1.below hb H0.out.2.2.2) 3 _ rfl
                        rw [← HM.out] at qs
                        obtain ⟨W3, rfl⟩ : ∃ x, x = wr := ⟨_, rfl⟩
                        have HBW3 := Lib.hid hb
                        clear hb hok hall
                        by_cases hlm : k ≤ 256
                        · have dl : decide ((256 : Int) < (k : Int)) = false := decide_eq_false (by omega)
                          have HA5 := Lib.hid (show ((∀ u ∈ c.us, UnitOk c.cen c.ds.length u) ∧ c.us.length ≤ 256) from by rw [← HM.out, ← HCN.out.2, ← HCN.out.1]; exact ⟨HALL.out, hlm⟩)
                          clear HALL hlm HBO HM
                          obtain ⟨m, hm⟩ : ∃ m, m = c.pl.length := ⟨_, rfl⟩
                          have HM := Lib.hid hm
                          have q4 : W3.cell? ⟨w.heap.size, 4, none⟩ = some (.slice c.pA c.pl.length c.pc) := (H0.out.2.1.below HBW3.out H0.out.2.2.2) 4 _ rfl
                          rw [← hm] at q4
                          have hml : m ≤ 1099511627 := by rw [hm]; exact HS.out.1.pl
                          have hpc : m ≤ c.pc := by rw [hm]; exact HS.out.1.pc
                          clear hm
                          go_wp2_with fail
                          go_loopw [86] (fun iv Y => ∃ k : Nat, k ≤ m ∧ k ≤ 64 ∧ iv = .int .i64 k ∧ Below W0.heap.size W0 Y ∧ PlansTo c.pl k) (fun i _ => m - (intOf i).toNat)
                          case atStart => exact ⟨0, by omega, by omega, rfl, HBW3.out, fun i p h => absurd h (by omega)⟩
                          case round =>
                            obtain ⟨k, hk, hk64, rfl, hb, hok⟩ := hrel
                            obtain ⟨wo, rfl⟩ : ∃ x, x = wr := ⟨_, rfl⟩
                            have HBO := Lib.hid (And.intro hb hok)
                            have q4 : wo.cell? ⟨w.heap.size, 4, none⟩ = some (.slice c.pA c.pl.length c.pc) := (H0.out.2.1.below hb H0.out.2.2.2) 4 _ rfl
                            rw [← HM.out] at q4
                            by_cases hlt : k < m
                            · have hlt' : (k : Int) < (m : Int) := by omega
                              obtain ⟨p, hp⟩ : ∃ p, c.pl[k]? = some p := ⟨c.pl[k]'(by have := HM.out; omega), by simp⟩
                              obtain ⟨⟨b, o, hA, hbb, y0, y1, y2, qk⟩, hwf⟩ := (H0.out.2.2.1.pl.below hb) k p hp
                              rw [hA] at q4 ⊢
                              obtain ⟨f0, f1, f2⟩ := freshP_at wo p 43
                              have hbA := freshP_below wo p 43
                              have hzA := freshP_size wo p 43
                              have hb1 : Below W0.heap.size W0 (freshP wo p 43) := hb.trans (hbA.mono hb.size)
                              have HP2 := Lib.hid (And.intro hp hA)
                              have HPO := Lib.hid (fun (h : PlansOk c.pl) => h.2 k _ (by have := HM.out; omega) hp)
                              have HPL := Lib.hid (planR_any (freshP wo p 43) p ((qk.below (hbA.mono hb.size)).more hb1.size) (HS.out.1.ks p (List.mem_of_getElem? hp)) (HS.out.2 p (List.mem_of_getElem? hp)))
                              obtain ⟨W1, hW1⟩ : ∃ W1, W1 = freshP wo p 43 := ⟨_, rfl⟩
                              rw [← hW1] at f0 f1 f2 hb1 hzA HPL
                              unfold freshP at hW1
                              have HB1 := Lib.hid hb1
                              clear hb hok hp hA hb1 hbA qk hwf
                              by_cases hk6 : k < 64
                              · have d1 : decide ((64 : Int) ≤ (k : Int)) = false := decide_eq_false (by omega)
                                obtain ⟨code, urg, kA, kinds, kc⟩ := p
                                dsimp only at y0 y1 y2 f0 f1 f2 hW1 HPL
                                go_wp2_with fail
                                rw [← hW1]
                                clear hW1
                                refine HPL.out.mono ?_
                                rintro e W2 ⟨rfl, hb2⟩
                                have hbo : wo.heap.size < W1.heap.size := by omega
                                have f0 := (hb2.cell (p := ⟨wo.heap.size, 0, none⟩) hbo).trans f0
                                have f1 := (hb2.cell (p := ⟨wo.heap.size, 1, none⟩) hbo).trans f1
                                have hbo2 : wo.heap.size < W2.heap.size := Nat.lt_of_lt_of_le hbo hb2.size
                                have HB2 := Lib.hid (HB1.out.trans (hb2.mono HB1.out.size))
                                have q4 : W2.cell? ⟨w.heap.size, 4, none⟩ = some (.slice (some ⟨b, o, none⟩) m c.pc) := by have := (H0.out.2.1.below HB2.out H0.out.2.2.2) 4 _ rfl; rw [HP2.out.2, ← HM.out] at this; exact this
                                clear hb2 y0 y1 y2 f2
                                by_cases hpo : PlanOk ⟨code, urg, kA, kinds, kc⟩
                                · rw [tb_true hpo]
                                  have HPK := Lib.hid hpo
                                  clear hpo
                                  go_wp2_with fail
                                  go_loopw [103] (fun jv Y => ∃ i : Nat, i ≤ k ∧ jv = .int .i64 i ∧ Below W2.heap.size W2 Y ∧ ∀ j q, j < i → c.pl[j]? = some q → ¬ (q.code = code ∧ q.urg = urg)) (fun jv _ => k - (intOf jv).toNat)
                                  case atStart => exact ⟨0, by omega, rfl, Below.refl _ _, fun j q h => absurd h (by omega)⟩
                                  case round =>
                                    obtain ⟨i, hik, rfl, hb3, hnt⟩ := hrel
                                    have HB3 := Lib.hid (And.intro hb3 hnt)
                                    by_cases hlt2 : i < k
                                    · have hlt2' : (i : Int) < (k : Int) := by omega
                                      obtain ⟨q, hq⟩ : ∃ q, c.pl[i]? = some q := ⟨c.pl[i]'(by have := HM.out; omega), by simp⟩
                                      obtain ⟨⟨b2, o2, hA2, _, v0, v1, v2, _⟩, _⟩ := ((H0.out.2.2.1.pl.below HB2.out).below (hb3.mono HB2.out.size)) i q hq
                                      rw [HP2.out.2] at hA2
                                      injection hA2 with hA2
                                      injection hA2 with e1 e2
                                      subst e1 e2
                                      obtain ⟨g0, g1, g2⟩ := freshP_at wr q 43
                                      have hbA := freshP_below wr q 43
                                      have hw2 : wo.heap.size < wr.heap.size := Nat.lt_of_lt_of_le hbo2 hb3.size
                                      have kr0 := (hb3.cell (p := ⟨wo.heap.size, 0, none⟩) hbo2).trans f0
                                      have kr1 := (hb3.cell (p := ⟨wo.heap.size, 1, none⟩) hbo2).trans f1
                                      have hne : ¬ wo.heap.size = wr.heap.size := by omega
                                      have HB4 := Lib.hid (hb3.trans (hbA.mono hb3.size))
                                      obtain ⟨W5, hW5⟩ : ∃ W5, W5 = freshP wr q 43 := ⟨_, rfl⟩
                                      rw [← hW5] at g0 g1 g2 HB4
                                      unfold freshP at hW5
                                      have HQ := Lib.hid hq
                                      obtain ⟨code2, urg2, kA2, kinds2, kc2⟩ := q
                                      dsimp only at v0 v1 v2 g0 g1 g2 hW5
                                      clear hb3 hnt hq hbA
                                      by_cases hcd : code2 = code
                                      · have hce := str_eq hcd
                                        by_cases hur : urg2 = urg
                                        · have hue : (urg2 == urg) = true := beq_iff_eq.2 hur
                                          have HT := Lib.hid (And.intro hcd hur)
                                          clear hcd hur
                                          go_wp2_with fail
                                          rw [← hW5]
                                          clear hW5
                                          go_ret
                                          exact ⟨ret_int (by rw [HP.out, prob_6 HA1.out HA2.out HA3.out HA4.out HA5.out (fun h => (HPO.out h).2 i _ hlt2 HQ.out HT.out)]; rfl), H0.out.1.trans ((HB2.out.trans (HB4.out.mono HB2.out.size)).mono H0.out.1.size)⟩
                                        · have hue : (urg2 == urg) = false := beq_eq_false_iff_ne.2 hur
                                          have HT := Lib.hid hur
                                          have HCE := Lib.hid hcd
                                          clear hur hcd
                                          go_wp2_with fail
                                          rw [← hW5]
                                          clear hW5
                                          go_roundw
                                          case rel => exact ⟨i + 1, by omega, by go_num, HB4.out, fun j q hj hq => not_twin (HB3.out.2) HQ.out (fun h => HT.out h.2) hj hq⟩
                                          case measure => simp [intOf]; omega
                                      · have hce := str_ne hcd
                                        have HT := Lib.hid hcd
                                        clear hcd
                                        go_wp2_with fail
                                        rw [← hW5]
                                        clear hW5
                                        go_roundw
                                        case rel => exact ⟨i + 1, by omega, by go_num, HB4.out, fun j q hj hq => not_twin (HB3.out.2) HQ.out (fun h => HT.out h.1) hj hq⟩
                                        case measure => simp [intOf]; omega
                                    · have hik2 : i = k := by omega
                                      subst hik2
                                      clear hb3 hnt
                                      go_wp2_with fail
                                      go_roundw
                                      case rel => exact ⟨i + 1, by omega, by omega, by go_num, HB2.out.trans (HB3.out.1.mono HB2.out.size), plans_step HP2.out.1 HBO.out.2 HPK.out (fun j q hj hq => HB3.out.2 j q hj hq)⟩
                                      case measure => simp [intOf]; omega
                                · rw [tb_false hpo]
                                  have HPK := Lib.hid hpo
                                  clear hpo
                                  go_wp2_with fail
                                  go_ret
                                  exact ⟨ret_int (by rw [HP.out, prob_6 HA1.out HA2.out HA3.out HA4.out HA5.out (fun h => HPK.out (HPO.out h).1)]; rfl), H0.out.1.trans (HB2.out.mono H0.out.1.size)⟩
                              · have d1 : decide ((64 : Int) ≤ (k : Int)) = true := decide_eq_true (by omega)
                                go_wp2_with fail
                                rw [← hW1]
                                clear hW1
                                go_ret
                                exact ⟨ret_int (by rw [HP.out, prob_6 HA1.out HA2.out HA3.out HA4.out HA5.out (fun h => hk6 (by have h1 := h.1; have h2 := HM.out; omega))]; rfl), H0.out.1.trans (HB1.out.mono H0.out.1.size)⟩
                            · have hkk : m = k := by omega
                              subst hkk
                              have HA6 := Lib.hid (show PlansOk c.pl from ⟨by rw [← HM.out]; exact hk64, by rw [← HM.out]; exact HBO.out.2⟩)
                              obtain ⟨W4, rfl⟩ : ∃ x, x = wo := ⟨_, rfl⟩
                              have HB4 := Lib.hid HBO.out.1
                              clear hb hok
                              have hni := H0.out.2.1.below HB4.out H0.out.2.2.2
                              have hrx := (HB4.out.block w.heap.size H0.out.2.2.2).trans HROW.out.1
                              have HNR := Lib.hid (numbersR_any W4 c H0.out.2.2.1.ten)
                              rw [← HX.out] at HNR
                              have HTEN := Lib.hid H0.out.2.2.1.ten
                              clear hni
                              go_wp2_with (refine wpList_load_row rfl 27 (.tmp 1) rfl w.heap.size rfl 27 X (0, 0) _ hrx Tryz.underlying27 rfl HROW.out.2 ?_)
                              refine HNR.out.mono ?_
                              rintro e W5 ⟨A, cc, rfl, hsl, hb5⟩
                              rw [HTEN.out]
                              have HS5 := Lib.hid (And.intro hsl (HB4.out.trans (hb5.mono HB4.out.size)))
                              clear hsl hb5 hrx
                              go_wp2_with fail
                              go_loopw [124] (fun iv Y => ∃ k : Nat, k ≤ 10 ∧ iv = .int .i64 k ∧ W5 = Y ∧ ParsTo c.ps k) (fun i _ => 10 - (intOf i).toNat)
                              case atStart => exact ⟨0, by omega, rfl, rfl, fun i z h => absurd h (by omega)⟩
                              case round =>
                                obtain ⟨k, hk, rfl, rfl, hok⟩ := hrel
                                have HOK := Lib.hid hok
                                clear hok
                                by_cases hlt : k < 10
                                · have hlt' : (k : Int) < 10 := by omega
                                  obtain ⟨z, hz⟩ : ∃ z, c.ps[k]? = some z := ⟨c.ps[k]'(by rw [HTEN.out]; exact hlt), by simp⟩
                                  obtain ⟨b, o, rfl, _, qz⟩ := HS5.out.1.int hz
                                  have HZ := Lib.hid (And.intro hz hlt)
                                  clear hz
                                  by_cases k6 : k = 6
                                  · have e6 : ((k : Int) == 6) = true := beq_iff_eq.2 (by omega)
                                    have HW := Lib.hid (within_any z 0 1099511627776 W5)
                                    have hlo : parLow k = 0 := by unfold parLow; first | (rw [if_pos (by omega)]) | (rw [if_neg (by omega)])
                                    have hhi : parHigh k = 1099511627776 := by unfold parHigh; (repeat (first | rw [if_pos (by omega)] | rw [if_neg (by omega)]))
                                    have HLH := Lib.hid (And.intro hlo hhi)
                                    clear hlo hhi k6
                                    by_cases hin : 0 ≤ z ∧ z ≤ 1099511627776
                                    · rw [tb_true hin] at HW
                                      have HI := Lib.hid hin
                                      clear hin
                                      go_wp2_with fail
                                      refine HW.out.mono ?_
                                      rintro e w' ⟨rfl, hw⟩
                                      rw [hw]
                                      clear hw w'
                                      go_wp2_with fail
                                      go_roundw
                                      case rel => exact ⟨k + 1, by omega, by go_num, trivial, pars_step HZ.out.1 HOK.out (by rw [HLH.out.1]; exact HI.out.1) (by rw [HLH.out.2]; exact HI.out.2)⟩
                                      case measure => simp [intOf]; omega
                                    · rw [tb_false hin] at HW
                                      have HI := Lib.hid (show ¬ ParsTo c.ps 10 from fun h => hin (by have := h k z HZ.out.2 HZ.out.1; rw [HLH.out.1, HLH.out.2] at this; exact this))
                                      clear hin
                                      go_wp2_with fail
                                      refine HW.out.mono ?_
                                      rintro e w' ⟨rfl, hw⟩
                                      rw [hw]
                                      clear hw w'
                                      go_wp2_with fail
                                      go_ret
                                      exact ⟨ret_int (by rw [HP.out, prob_7 HA1.out HA2.out HA3.out HA4.out HA5.out HA6.out HI.out]; rfl), H0.out.1.trans (HS5.out.2.mono H0.out.1.size)⟩
                                  · have e6 : ((k : Int) == 6) = false := beq_eq_false_iff_ne.2 (by omega)
                                    by_cases k7 : k = 7
                                    · have e7 : ((k : Int) == 7) = true := beq_iff_eq.2 (by omega)
                                      have HW := Lib.hid (within_any z 0 1099511627776 W5)
                                      have hlo : parLow k = 0 := by unfold parLow; first | (rw [if_pos (by omega)]) | (rw [if_neg (by omega)])
                                      have hhi : parHigh k = 1099511627776 := by unfold parHigh; (repeat (first | rw [if_pos (by omega)] | rw [if_neg (by omega)]))
                                      have HLH := Lib.hid (And.intro hlo hhi)
                                      clear hlo hhi k6 k7
                                      by_cases hin : 0 ≤ z ∧ z ≤ 1099511627776
                                      · rw [tb_true hin] at HW
                                        have HI := Lib.hid hin
                                        clear hin
                                        go_wp2_with fail
                                        refine HW.out.mono ?_
                                        rintro e w' ⟨rfl, hw⟩
                                        rw [hw]
                                        clear hw w'
                                        go_wp2_with fail
                                        go_roundw
                                        case rel => exact ⟨k + 1, by omega, by go_num, trivial, pars_step HZ.out.1 HOK.out (by rw [HLH.out.1]; exact HI.out.1) (by rw [HLH.out.2]; exact HI.out.2)⟩
                                        case measure => simp [intOf]; omega
                                      · rw [tb_false hin] at HW
                                        have HI := Lib.hid (show ¬ ParsTo c.ps 10 from fun h => hin (by have := h k z HZ.out.2 HZ.out.1; rw [HLH.out.1, HLH.out.2] at this; exact this))
                                        clear hin
                                        go_wp2_with fail
                                        refine HW.out.mono ?_
                                        rintro e w' ⟨rfl, hw⟩
                                        rw [hw]
                                        clear hw w'
                                        go_wp2_with fail
                                        go_ret
                                        exact ⟨ret_int (by rw [HP.out, prob_7 HA1.out HA2.out HA3.out HA4.out HA5.out HA6.out HI.out]; rfl), H0.out.1.trans (HS5.out.2.mono H0.out.1.size)⟩
                                    · have e7 : ((k : Int) == 7) = false := beq_eq_false_iff_ne.2 (by omega)
                                      by_cases k8 : k = 8
                                      · have e8 : ((k : Int) == 8) = true := beq_iff_eq.2 (by omega)
                                        have HW := Lib.hid (within_any z 0 256 W5)
                                        have hlo : parLow k = 0 := by unfold parLow; first | (rw [if_pos (by omega)]) | (rw [if_neg (by omega)])
                                        have hhi : parHigh k = 256 := by unfold parHigh; (repeat (first | rw [if_pos (by omega)] | rw [if_neg (by omega)]))
                                        have HLH := Lib.hid (And.intro hlo hhi)
                                        clear hlo hhi k6 k7 k8
                                        by_cases hin : 0 ≤ z ∧ z ≤ 256
                                        · rw [tb_true hin] at HW
                                          have HI := Lib.hid hin
                                          clear hin
                                          go_wp2_with fail
                                          refine HW.out.mono ?_
                                          rintro e w' ⟨rfl, hw⟩
                                          rw [hw]
                                          clear hw w'
                                          go_wp2_with fail
                                          go_roundw
                                          case rel => exact ⟨k + 1, by omega, by go_num, trivial, pars_step HZ.out.1 HOK.out (by rw [HLH.out.1]; exact HI.out.1) (by rw [HLH.out.2]; exact HI.out.2)⟩
                                          case measure => simp [intOf]; omega
                                        · rw [tb_false hin] at HW
                                          have HI := Lib.hid (show ¬ ParsTo c.ps 10 from fun h => hin (by have := h k z HZ.out.2 HZ.out.1; rw [HLH.out.1, HLH.out.2] at this; exact this))
                                          clear hin
                                          go_wp2_with fail
                                          refine HW.out.mono ?_
                                          rintro e w' ⟨rfl, hw⟩
                                          rw [hw]
                                          clear hw w'
                                          go_wp2_with fail
                                          go_ret
                                          exact ⟨ret_int (by rw [HP.out, prob_7 HA1.out HA2.out HA3.out HA4.out HA5.out HA6.out HI.out]; rfl), H0.out.1.trans (HS5.out.2.mono H0.out.1.size)⟩
                                      · have e8 : ((k : Int) == 8) = false := beq_eq_false_iff_ne.2 (by omega)
                                        by_cases k9 : k = 9
                                        · have e9 : ((k : Int) == 9) = true := beq_iff_eq.2 (by omega)
                                          have HW := Lib.hid (within_any z 1 4096 W5)
                                          have hlo : parLow k = 1 := by unfold parLow; first | (rw [if_pos (by omega)]) | (rw [if_neg (by omega)])
                                          have hhi : parHigh k = 4096 := by unfold parHigh; (repeat (first | rw [if_pos (by omega)] | rw [if_neg (by omega)]))
                                          have HLH := Lib.hid (And.intro hlo hhi)
                                          clear hlo hhi k6 k7 k8 k9
                                          by_cases hin : 1 ≤ z ∧ z ≤ 4096
                                          · rw [tb_true hin] at HW
                                            have HI := Lib.hid hin
                                            clear hin
                                            go_wp2_with fail
                                            refine HW.out.mono ?_
                                            rintro e w' ⟨rfl, hw⟩
                                            rw [hw]
                                            clear hw w'
                                            go_wp2_with fail
                                            go_roundw
                                            case rel => exact ⟨k + 1, by omega, by go_num, trivial, pars_step HZ.out.1 HOK.out (by rw [HLH.out.1]; exact HI.out.1) (by rw [HLH.out.2]; exact HI.out.2)⟩
                                            case measure => simp [intOf]; omega
                                          · rw [tb_false hin] at HW
                                            have HI := Lib.hid (show ¬ ParsTo c.ps 10 from fun h => hin (by have := h k z HZ.out.2 HZ.out.1; rw [HLH.out.1, HLH.out.2] at this; exact this))
                                            clear hin
                                            go_wp2_with fail
                                            refine HW.out.mono ?_
                                            rintro e w' ⟨rfl, hw⟩
                                            rw [hw]
                                            clear hw w'
                                            go_wp2_with fail
                                            go_ret
                                            exact ⟨ret_int (by rw [HP.out, prob_7 HA1.out HA2.out HA3.out HA4.out HA5.out HA6.out HI.out]; rfl), H0.out.1.trans (HS5.out.2.mono H0.out.1.size)⟩
                                        · have e9 : ((k : Int) == 9) = false := beq_eq_false_iff_ne.2 (by omega)
                                          have HW := Lib.hid (within_any z 1 1048576 W5)
                                          have hlo : parLow k = 1 := by unfold parLow; first | (rw [if_pos (by omega)]) | (rw [if_neg (by omega)])
                                          have hhi : parHigh k = 1048576 := by unfold parHigh; (repeat (first | rw [if_pos (by omega)] | rw [if_neg (by omega)]))
                                          have HLH := Lib.hid (And.intro hlo hhi)
                                          clear hlo hhi k6 k7 k8 k9
                                          by_cases hin : 1 ≤ z ∧ z ≤ 1048576
                                          · rw [tb_true hin] at HW
                                            have HI := Lib.hid hin
                                            clear hin
                                            go_wp2_with fail
                                            refine HW.out.mono ?_
                                            rintro e w' ⟨rfl, hw⟩
                                            rw [hw]
                                            clear hw w'
                                            go_wp2_with fail
                                            go_roundw
                                            case rel => exact ⟨k + 1, by omega, by go_num, trivial, pars_step HZ.out.1 HOK.out (by rw [HLH.out.1]; exact HI.out.1) (by rw [HLH.out.2]; exact HI.out.2)⟩
                                            case measure => simp [intOf]; omega
                                          · rw [tb_false hin] at HW
                                            have HI := Lib.hid (show ¬ ParsTo c.ps 10 from fun h => hin (by have := h k z HZ.out.2 HZ.out.1; rw [HLH.out.1, HLH.out.2] at this; exact this))
                                            clear hin
                                            go_wp2_with fail
                                            refine HW.out.mono ?_
                                            rintro e w' ⟨rfl, hw⟩
                                            rw [hw]
                                            clear hw w'
                                            go_wp2_with fail
                                            go_ret
                                            exact ⟨ret_int (by rw [HP.out, prob_7 HA1.out HA2.out HA3.out HA4.out HA5.out HA6.out HI.out]; rfl), H0.out.1.trans (HS5.out.2.mono H0.out.1.size)⟩
                                · have hkk : k = 10 := by omega
                                  subst hkk
                                  go_wp2_with fail
                                  go_ret
                                  exact ⟨ret_int (by rw [HP.out, prob_0 HA1.out HA2.out HA3.out HA4.out HA5.out HA6.out HOK.out]; rfl), H0.out.1.trans (HS5.out.2.mono H0.out.1.size)⟩
                        · have dl : decide ((256 : Int) < (k : Int)) = true := decide_eq_true (by omega)
                          have HI := Lib.hid (show ¬ ((∀ u ∈ c.us, UnitOk c.cen c.ds.length u) ∧ c.us.length ≤ 256) from fun h => hlm (by rw [HM.out]; exact h.2))
                          go_wp2_with fail
                          go_ret
                          exact ⟨ret_int (by rw [HP.out, prob_5 HA1.out HA2.out HA3.out HA4.out HI.out]; rfl), H0.out.1.trans (HBW3.out.mono H0.out.1.size)⟩
                  · have dl : decide ((16384 : Int) < (k : Int)) = true := decide_eq_true (by omega)
                    have HI := Lib.hid (show ¬ ((∀ e ∈ c.es, EdgeOk c.ds.length e) ∧ c.es.length ≤ 16384) from fun h => hlm (by rw [HM.out]; exact h.2))
                    go_wp2_with fail
                    go_ret
                    exact ⟨ret_int (by rw [HP.out, prob_4 HA1.out HA2.out HA3.out HI.out]; rfl), H0.out.1.trans (HBW2.out.mono H0.out.1.size)⟩
        · have d4 : decide ((4096 : Int) < (n : Int)) = true := decide_eq_true (by omega)
          have HQ := Lib.hid (show (1 ≤ c.cen ∧ c.cen ≤ 9) from by rw [← HCN.out.1]; exact ⟨h1, h2⟩)
          have HN := Lib.hid (show ¬ (1 ≤ c.ds.length ∧ c.ds.length ≤ 4096) from fun h => h4 (by rw [HCN.out.2]; exact h.2))
          go_enter Tryz.func11, Tryz.ntmps11
          go_wp2_with fail
          rw [← hW0]
          go_ret
          exact ⟨ret_int (by rw [HP.out, prob_2 HQ.out HN.out]; rfl), H0.out.1⟩
      · have d3 : decide ((n : Int) < 1) = true := decide_eq_true (by omega)
        have HQ := Lib.hid (show (1 ≤ c.cen ∧ c.cen ≤ 9) from by rw [← HCN.out.1]; exact ⟨h1, h2⟩)
        have HN := Lib.hid (show ¬ (1 ≤ c.ds.length ∧ c.ds.length ≤ 4096) from fun h => h3 (by rw [HCN.out.2]; exact h.1))
        go_enter Tryz.func11, Tryz.ntmps11
        go_wp2_with fail
        rw [← hW0]
        go_ret
        exact ⟨ret_int (by rw [HP.out, prob_2 HQ.out HN.out]; rfl), H0.out.1⟩
    · have d2 : decide ((9 : Int) < cen) = true := decide_eq_true (by omega)
      have HN := Lib.hid (show ¬ (1 ≤ c.cen ∧ c.cen ≤ 9) from fun h => h2 (by rw [HCN.out.1]; exact h.2))
      go_enter Tryz.func11, Tryz.ntmps11
      go_wp2_with fail
      rw [← hW0]
      go_ret
      exact ⟨ret_int (by rw [HP.out, prob_1 HN.out]; rfl), H0.out.1⟩
  · have d1 : decide (cen < 1) = true := decide_eq_true (by omega)
    have HN := Lib.hid (show ¬ (1 ≤ c.cen ∧ c.cen ≤ 9) from fun h => h1 (by rw [HCN.out.1]; exact h.1))
    go_enter Tryz.func11, Tryz.ntmps11
    go_wp2_with fail
    rw [← hW0]
    go_ret
    exact ⟨ret_int (by rw [HP.out, prob_1 HN.out]; rfl), H0.out.1⟩
end Go.Proofs.YtloacoalmfaceaaGreatDoor
