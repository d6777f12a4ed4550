/-
  config.validPlans.
-/
import Derived.Test.YtloacoalmfaceaaGreatDoorValU
namespace Go.Proofs.YtloacoalmfaceaaGreatDoor
open Go.RowKit

theorem toL_inj {a b : ByteArray} (h : a.toList = b.toList) : a = b := by
  rw [ByteArray.toList_eq, ByteArray.toList_eq] at h
  apply ByteArray.ext
  exact Array.toList_inj.1 h
theorem str_eq {a b : ByteArray} (h : a = b) : (a.toList == b.toList) = true := beq_iff_eq.2 (by rw [h])
theorem str_ne {a b : ByteArray} (h : a ≠ b) : (a.toList == b.toList) = false := beq_eq_false_iff_ne.2 (fun e => h (toL_inj e))
theorem plans_step {pl : List Plan} {k : Nat} {p : Plan} (hp : pl[k]? = some p) (h : PlansTo pl k) (hok : PlanOk p) (hd : ∀ j q, j < k → pl[j]? = some q → ¬ Twin q p) : PlansTo pl (k + 1) := by
  intro i q hi hq
  by_cases e : i = k
  · subst e
    rw [hp] at hq
    injection hq with hq
    subst hq
    exact ⟨hok, hd⟩
  · exact h i q (by omega) hq
theorem not_twin {pl : List Plan} {i : Nat} {code : ByteArray} {urg : Int} {q0 : Plan} (h : ∀ j q, j < i → pl[j]? = some q → ¬ (q.code = code ∧ q.urg = urg)) (hq0 : pl[i]? = some q0) (hn : ¬ (q0.code = code ∧ q0.urg = urg)) {j : Nat} {q : Plan} (hj : j < i + 1) (hq : pl[j]? = some q) : ¬ (q.code = code ∧ q.urg = urg) := by
  by_cases e : j = i
  · subst e
    rw [hq0] at hq
    injection hq with hq
    rw [← hq]
    exact hn
  · exact h j q (by omega) hq
def freshP (w : World) (p : Plan) (ty : TypeId) : World := w.alloc (.cells #[.string p.code, .int .i64 p.urg, .slice p.kA p.kinds.length p.kc] ty)
theorem freshP_at (w : World) (p : Plan) (ty : TypeId) : (freshP w p ty).cell? ⟨w.heap.size, 0, none⟩ = some (.string p.code) ∧ (freshP w p ty).cell? ⟨w.heap.size, 1, none⟩ = some (.int .i64 p.urg) ∧ (freshP w p ty).cell? ⟨w.heap.size, 2, none⟩ = some (.slice p.kA p.kinds.length p.kc) :=
  ⟨by simp [freshP, go_sem], by simp [freshP, go_sem], by simp [freshP, go_sem]⟩
theorem freshP_below (w : World) (p : Plan) (ty : TypeId) : Below w.heap.size w (freshP w p ty) := (Below.refl _ _).alloc (Nat.le_refl _) _
theorem freshP_size (w : World) (p : Plan) (ty : TypeId) : (freshP w p ty).heap.size = w.heap.size + 1 := by simp [freshP]
set_option maxRecDepth 100000 in
set_option maxHeartbeats 8000000 in
theorem validPlans_any (w : World) (cb : Nat) (c : Cfg) (hi : CfgIn w cb c) (hc : CfgAt w w.heap.size c) (hcb : cb < w.heap.size) (hl : c.pl.length ≤ 1099511627) (hpc : c.pl.length ≤ c.pc) (hkl : ∀ p ∈ c.pl, p.kinds.length ≤ 9223372036854775807) :
    Calls Tryz.prog 25 #[.pointer (some ⟨cb, 0, none⟩)] w fun e w' => e = .returned (.bool (tb (PlansOk c.pl))) ∧ Below w.heap.size w w' := by
  obtain ⟨c0, c1, c2, c3, c4⟩ := hi.five
  obtain ⟨m, hmm⟩ : ∃ m, m = c.pl.length := ⟨_, rfl⟩
  obtain ⟨pl, hpl⟩ : ∃ pl, pl = c.pl := ⟨_, rfl⟩
  have HI := Lib.hid (show Plans w w.heap.size c.pA pl ∧ (∀ p ∈ pl, p.kinds.length ≤ 9223372036854775807) from by rw [hpl]; exact ⟨hc.pl, hkl⟩)
  rw [← hmm] at c4 hl hpc
  rw [← hpl] at hmm ⊢
  have HM := Lib.hid hmm
  clear hi hc hmm c0 c1 c2 c3 hpl hkl
  by_cases h64 : m ≤ 64
  · have d64 : decide ((64 : Int) < (m : Int)) = false := decide_eq_false (by omega)
    go_enter Tryz.func25, Tryz.ntmps25
    go_wp2_with fail
    go_loopw [20] (fun i X => ∃ k : Nat, k ≤ m ∧ i = .int .i64 k ∧ Below w.heap.size w X ∧ PlansTo pl k) (fun i _ => m - (intOf i).toNat)
    case atStart => exact ⟨0, by omega, rfl, Below.refl _ _, fun i p h => absurd h (by omega)⟩
    case round =>
      obtain ⟨k, hk, rfl, hb, hok⟩ := hrel
      obtain ⟨wo, rfl⟩ : ∃ x, x = wr := ⟨_, rfl⟩
      have HB := Lib.hid (And.intro hb hok)
      by_cases hlt : k < m
      · have hlt' : (k : Int) < (m : Int) := by omega
        obtain ⟨p, hp⟩ : ∃ p, pl[k]? = some p := ⟨pl[k]'(by have := HM.out; omega), by simp⟩
        obtain ⟨⟨b, o, hA, hbb, q0, q1, q2, qk⟩, hwf⟩ := (HI.out.1.below hb) k p hp
        rw [hA] at c4 ⊢
        obtain ⟨f0, f1, f2⟩ := freshP_at wo p 43
        have hbA := freshP_below wo p 43
        have hzA := freshP_size wo p 43
        have hb1 : Below w.heap.size w (freshP wo p 43) := hb.trans (hbA.mono hb.size)
        have HP := Lib.hid (And.intro hp (And.intro hA hwf))
        obtain ⟨W1, hW1⟩ : ∃ W1, W1 = freshP wo p 43 := ⟨_, rfl⟩
        have HS := Lib.hid (show Sl W1 w.heap.size p.kA (p.kinds.map (Value.int .i64)) from by rw [hW1]; exact qk.below (hbA.mono hb.size))
        rw [← hW1] at f0 f1 f2 hb1 hzA
        have r4 : W1.cell? ⟨cb, 4, none⟩ = some (.slice (some ⟨b, o, none⟩) m c.pc) := (hb1.cell (p := ⟨cb, 4, none⟩) hcb).trans c4
        unfold freshP at hW1
        have HB1 := Lib.hid hb1
        have hnl := HI.out.2 p (List.mem_of_getElem? hp)
        obtain ⟨code, urg, kA, kinds, kc⟩ := p
        dsimp only at q0 q1 q2 f0 f1 f2 hW1 HS hnl
        obtain ⟨n, hn⟩ : ∃ n, n = kinds.length := ⟨_, rfl⟩
        have HNN := Lib.hid hn
        rw [← hn] at q2 f2 hW1 hnl
        clear hb hok hp hA hb1 hbA qk hwf hn
        have HCC := Lib.hid (fun X : World => isCode_any code X)
        go_wp2_with fail
        rw [← hW1]
        refine (HCC.out W1).mono ?_
        rintro e w' ⟨rfl, hw⟩
        rw [hw]
        clear hw w' hW1
        have HPO := Lib.hid (fun (h : PlansOk pl) => h.2 k _ (by have := HM.out; omega) HP.out.1)
        by_cases hco : CodeOk code
        · rw [tb_true hco]
          have HCO := Lib.hid hco
          clear hco
          by_cases hu1 : 1 ≤ urg
          · have d_hu1 : decide (urg < 1) = false := decide_eq_false (by omega)
            by_cases hu5 : urg ≤ 5
            · have d_hu5 : decide ((5 : Int) < urg) = false := decide_eq_false (by omega)
              by_cases hn1 : 1 ≤ n
              · have d_hn1 : decide ((n : Int) < 1) = false := decide_eq_false (by omega)
                by_cases hn8 : n ≤ 8
                · have d_hn8 : decide ((8 : Int) < (n : Int)) = false := decide_eq_false (by omega)
                  go_wp2_with fail
                  go_loopw [52] (fun jv X => ∃ i : Nat, i ≤ n ∧ jv = .int .i64 i ∧ W1 = X ∧ ∀ z ∈ kinds.take i, KindOk z) (fun jv _ => n - (intOf jv).toNat)
                  case atStart => exact ⟨0, by omega, rfl, rfl, by simp⟩
                  case round =>
                    obtain ⟨i, hin, rfl, rfl, hks⟩ := hrel
                    have HKS := Lib.hid hks
                    clear hks
                    by_cases hlt3 : i < n
                    · have hlt3' : (i : Int) < (n : Int) := by omega
                      obtain ⟨z, hz⟩ : ∃ z, kinds[i]? = some z := ⟨kinds[i]'(by have := HNN.out; omega), by simp⟩
                      obtain ⟨b3, o3, rfl, _, qz⟩ := HS.out.int hz
                      have HZ := Lib.hid hz
                      clear hz
                      by_cases hkz : KindOk z
                      · go_wp2_with fail
                        refine (isKind_any z W1).mono ?_
                        rintro e w' ⟨rfl, hw⟩
                        rw [hw, tb_true hkz]
                        clear hw w'
                        go_wp2_with fail
                        go_roundw
                        case rel => exact ⟨i + 1, by omega, by go_num, trivial, (all_take_iff HZ.out).2 ⟨HKS.out, hkz⟩⟩
                        case measure => simp [intOf]; omega
                      · go_wp2_with fail
                        refine (isKind_any z W1).mono ?_
                        rintro e w' ⟨rfl, hw⟩
                        rw [hw, tb_false hkz]
                        clear hw w'
                        go_wp2_with fail
                        go_ret
                        exact ⟨ret_no (fun h => hkz ((HPO.out h).1.2.2.2 z (List.mem_of_getElem? HZ.out))), HB1.out⟩
                    · have hin2 : i = n := by omega
                      subst hin2
                      have HKO := Lib.hid (show ∀ z ∈ kinds, KindOk z from by have := HKS.out; rwa [HNN.out, List.take_length] at this)
                      clear HKS
                      go_wp2_with fail
                      go_loopw [67] (fun jv X => ∃ i : Nat, i ≤ k ∧ jv = .int .i64 i ∧ Below W1.heap.size W1 X ∧ ∀ j q, j < i → pl[j]? = some q → ¬ (q.code = code ∧ q.urg = urg)) (fun jv _ => k - (intOf jv).toNat)
                      case atStart => exact ⟨0, by omega, rfl, Below.refl _ _, fun j q h => absurd h (by omega)⟩
                      case round =>
                        obtain ⟨i, hik, rfl, hb2, hnt⟩ := hrel
                        have HB2 := Lib.hid (And.intro hb2 hnt)
                        by_cases hlt2 : i < k
                        · have hlt2' : (i : Int) < (k : Int) := by omega
                          obtain ⟨q, hq⟩ : ∃ q, pl[i]? = some q := ⟨pl[i]'(by have := HM.out; omega), by simp⟩
                          obtain ⟨⟨b2, o2, hA2, _, v0, v1, v2, _⟩, _⟩ := ((HI.out.1.below HB1.out).below (hb2.mono HB1.out.size)) i q hq
                          rw [HP.out.2.1] at hA2
                          injection hA2 with hA2
                          injection hA2 with e1 e2
                          subst e1 e2
                          obtain ⟨g0, g1, g2⟩ := freshP_at wr q 43
                          have hbA := freshP_below wr q 43
                          have hw0 : wo.heap.size < W1.heap.size := by omega
                          have hw2 : wo.heap.size < wr.heap.size := Nat.lt_of_lt_of_le hw0 hb2.size
                          have kr0 := (hb2.cell (p := ⟨wo.heap.size, 0, none⟩) hw0).trans f0
                          have kr1 := (hb2.cell (p := ⟨wo.heap.size, 1, none⟩) hw0).trans f1
                          have hne : ¬ wo.heap.size = wr.heap.size := by omega
                          have k0 := (hbA.cell (p := ⟨wo.heap.size, 0, none⟩) hw2).trans ((hb2.cell (p := ⟨wo.heap.size, 0, none⟩) hw0).trans f0)
                          have k1 := (hbA.cell (p := ⟨wo.heap.size, 1, none⟩) hw2).trans ((hb2.cell (p := ⟨wo.heap.size, 1, none⟩) hw0).trans f1)
                          have HB3 := Lib.hid (hb2.trans (hbA.mono hb2.size))
                          obtain ⟨W2, hW2⟩ : ∃ W2, W2 = freshP wr q 43 := ⟨_, rfl⟩
                          rw [← hW2] at g0 g1 g2 k0 k1 HB3
                          unfold freshP at hW2
                          have HQ := Lib.hid hq
                          obtain ⟨code2, urg2, kA2, kinds2, kc2⟩ := q
                          dsimp only at v0 v1 v2 g0 g1 g2 hW2
                          clear hb2 hnt hq hbA
                          by_cases hcd : code2 = code
                          · have hce := str_eq hcd
                            by_cases hur : urg2 = urg
                            · have hue : (urg2 == urg) = true := beq_iff_eq.2 hur
                              have HT := Lib.hid (And.intro hcd hur)
                              clear hcd hur
                              go_wp2_with fail
                              rw [← hW2]
                              clear hW2
                              go_ret
                              exact ⟨ret_no (fun h => (HPO.out h).2 i _ hlt2 HQ.out HT.out), HB1.out.trans (HB3.out.mono HB1.out.size)⟩
                            · have hue : (urg2 == urg) = false := beq_eq_false_iff_ne.2 hur
                              have HT := Lib.hid hur
                              have HCE := Lib.hid hcd
                              clear hur hcd
                              go_wp2_with fail
                              rw [← hW2]
                              clear hW2
                              go_roundw
                              case rel => exact ⟨i + 1, by omega, by go_num, HB3.out, fun j q hj hq => not_twin (HB2.out.2) HQ.out (fun h => HT.out h.2) hj hq⟩
                              case measure => simp [intOf]; omega
                          · have hce := str_ne hcd
                            have HT := Lib.hid hcd
                            clear hcd
                            go_wp2_with fail
                            rw [← hW2]
                            clear hW2
                            go_roundw
                            case rel => exact ⟨i + 1, by omega, by go_num, HB3.out, fun j q hj hq => not_twin (HB2.out.2) HQ.out (fun h => HT.out h.1) hj hq⟩
                            case measure => simp [intOf]; omega
                        · have hik2 : i = k := by omega
                          subst hik2
                          clear hb2 hnt
                          go_wp2_with fail
                          go_roundw
                          case rel => exact ⟨i + 1, by omega, by go_num, HB1.out.trans (HB2.out.1.mono HB1.out.size), plans_step HP.out.1 HB.out.2 ⟨HCO.out, ⟨hu1, hu5⟩, by have := HNN.out; dsimp only; omega, HKO.out⟩ (fun j q hj hq => HB2.out.2 j q hj hq)⟩
                          case measure => simp [intOf]; omega
                · have d_hn8 : decide ((8 : Int) < (n : Int)) = true := decide_eq_true (by omega)
                  go_wp2_with fail
                  go_ret
                  exact ⟨ret_no (fun h => by have := (HPO.out h).1.2.2.1.2; have := HNN.out; dsimp only at *; omega), HB1.out⟩
              · have d_hn1 : decide ((n : Int) < 1) = true := decide_eq_true (by omega)
                go_wp2_with fail
                go_ret
                exact ⟨ret_no (fun h => by have := (HPO.out h).1.2.2.1.1; have := HNN.out; dsimp only at *; omega), HB1.out⟩
            · have d_hu5 : decide ((5 : Int) < urg) = true := decide_eq_true (by omega)
              go_wp2_with fail
              go_ret
              exact ⟨ret_no (fun h => by have := (HPO.out h).1.2.1.2; dsimp only at this; omega), HB1.out⟩
          · have d_hu1 : decide (urg < 1) = true := decide_eq_true (by omega)
            go_wp2_with fail
            go_ret
            exact ⟨ret_no (fun h => by have := (HPO.out h).1.2.1.1; dsimp only at this; omega), HB1.out⟩
        · rw [tb_false hco]
          go_wp2_with fail
          go_ret
          exact ⟨ret_no (fun h => hco (HPO.out h).1.1), HB1.out⟩
      · have hkk : k = m := by omega
        subst hkk
        clear hb hok
        go_wp2_with fail
        go_ret
        exact ⟨ret_yes ⟨by have := HM.out; omega, by rw [← HM.out]; exact HB.out.2⟩, HB.out.1⟩
  · have d64 : decide ((64 : Int) < (m : Int)) = true := decide_eq_true (by omega)
    go_enter Tryz.func25, Tryz.ntmps25
    go_wp2_with fail
    go_ret
    exact ⟨ret_no (fun h => h64 (by have := HM.out; have := h.1; omega)), Below.refl _ _⟩
end Go.Proofs.YtloacoalmfaceaaGreatDoor
