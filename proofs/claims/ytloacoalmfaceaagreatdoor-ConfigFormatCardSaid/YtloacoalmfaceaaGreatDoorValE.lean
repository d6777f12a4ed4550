/-
  config.validEdges.
-/
import Derived.Test.YtloacoalmfaceaaGreatDoorVal
namespace Go.Proofs.YtloacoalmfaceaaGreatDoor
open Go.RowKit

/-- the cells of a new variable that holds a record. -/
theorem fresh3 (w : World) (t : T3) (ty : TypeId) : (w.alloc (.cells #[.int .i64 t.a, .int .i64 t.b, .int .i64 t.c] ty)).cell? ⟨w.heap.size, 0, none⟩ = some (.int .i64 t.a) ∧ (w.alloc (.cells #[.int .i64 t.a, .int .i64 t.b, .int .i64 t.c] ty)).cell? ⟨w.heap.size, 1, none⟩ = some (.int .i64 t.b) ∧ (w.alloc (.cells #[.int .i64 t.a, .int .i64 t.b, .int .i64 t.c] ty)).cell? ⟨w.heap.size, 2, none⟩ = some (.int .i64 t.c) :=
  ⟨by simp [go_sem], by simp [go_sem], by simp [go_sem]⟩
theorem rec3_at {w : World} {B : Nat} {A : Option Addr} {xs : List T3} (h : RecsAt cells3 w B A xs) {i : Nat} {t : T3} (hi : xs[i]? = some t) : ∃ b o, A = some ⟨b, o, none⟩ ∧ b < B ∧ w.cell? ⟨b, o + i * 3, none⟩ = some (.int .i64 t.a) ∧ w.cell? ⟨b, o + i * 3 + 1, none⟩ = some (.int .i64 t.b) ∧ w.cell? ⟨b, o + i * 3 + 2, none⟩ = some (.int .i64 t.c) := by
  obtain ⟨b, o, e, hb, hc⟩ := h.at cells3_len hi (by decide)
  exact ⟨b, o, e, hb, hc 0 _ rfl, hc 1 _ rfl, hc 2 _ rfl⟩
set_option maxRecDepth 100000 in
set_option maxHeartbeats 4000000 in
theorem validEdges_any (w : World) (cb : Nat) (c : Cfg) (hi : CfgIn w cb c) (hc : CfgAt w w.heap.size c) (hcb : cb < w.heap.size) (hl : c.es.length ≤ 1099511627) :
    Calls Tryz.prog 23 #[.pointer (some ⟨cb, 0, none⟩)] w fun e w' => e = .returned (.bool (tb ((∀ e ∈ c.es, EdgeOk c.ds.length e) ∧ c.es.length ≤ 16384))) ∧ Below w.heap.size w w' := by
  obtain ⟨c0, c1, c2, c3, c4⟩ := hi.five
  obtain ⟨n, hnn⟩ : ∃ n, n = c.ds.length := ⟨_, rfl⟩
  obtain ⟨m, hmm⟩ : ∃ m, m = c.es.length := ⟨_, rfl⟩
  have HM := Lib.hid hmm
  have HI := Lib.hid (And.intro hi (And.intro hc hcb))
  rw [← hnn] at c1 ⊢
  rw [← hmm] at c2 hl ⊢
  clear hi hc hnn hmm c0 c3 c4
  go_enter Tryz.func23, Tryz.ntmps23
  go_wp2_with fail
  clear c1
  go_loopw [16] (fun i X => ∃ k : Nat, k ≤ m ∧ i = .int .i64 k ∧ Below w.heap.size w X ∧ ∀ e ∈ c.es.take k, EdgeOk n e) (fun i _ => m - (intOf i).toNat)
  case atStart => exact ⟨0, by omega, rfl, Below.refl _ _, by simp⟩
  case round =>
    obtain ⟨k, hk, rfl, hb, hok⟩ := hrel
    have HB := Lib.hid (And.intro hb hok)
    by_cases hlt : k < m
    · have hlt' : (k : Int) < (m : Int) := by omega
      obtain ⟨t, ht⟩ : ∃ t, c.es[k]? = some t := ⟨c.es[k]'(by have := HM.out; omega), by simp⟩
      obtain ⟨b, o, hA, hbb, q0, q1, q2⟩ := rec3_at (RecsAt.below HI.out.2.1.es hb) ht
      rw [hA]
      obtain ⟨f0, f1, f2⟩ := fresh3 wr t 50
      have hb1 : Below w.heap.size w (wr.alloc (.cells #[.int .i64 t.a, .int .i64 t.b, .int .i64 t.c] 50)) := hb.alloc hb.size _
      have HT := Lib.hid ht
      obtain ⟨a, b', c', rfl⟩ : ∃ a b c, t = ⟨a, b, c⟩ := ⟨t.a, t.b, t.c, rfl⟩
      dsimp only at q0 q1 q2 f0 f1 f2 hb1
      obtain ⟨W1, hW1⟩ : ∃ W1, W1 = wr.alloc (.cells #[.int .i64 a, .int .i64 b', .int .i64 c'] 50) := ⟨_, rfl⟩
      rw [← hW1] at f0 f1 f2 hb1
      have HB1 := Lib.hid hb1
      clear hb hok ht hA hb1
      by_cases ha : Idx a n
      · by_cases hb' : Idx b' n
        · by_cases h1 : 1 ≤ c'
          · have e1 : decide (c' < 1) = false := decide_eq_false (by omega)
            by_cases h2 : c' ≤ 1048576
            · have e2 : decide ((1048576 : Int) < c') = false := decide_eq_false (by omega)
              go_wp2_with fail
              rw [← hW1]
              clear hW1
              refine (isIndex_any _ _ W1).mono ?_
              rintro e w' ⟨rfl, hw⟩
              rw [hw, tb_true ha]
              clear hw w'
              go_wp2_with fail
              refine (isIndex_any _ _ W1).mono ?_
              rintro e w' ⟨rfl, hw⟩
              rw [hw, tb_true hb']
              clear hw w'
              go_wp2_with fail
              go_roundw
              case rel => exact ⟨k + 1, by omega, by go_num, HB1.out, (all_take_iff HT.out).2 ⟨HB.out.2, ha, hb', .inl ⟨h1, h2⟩⟩⟩
              case measure => simp [intOf]; omega
            · have e2 : decide ((1048576 : Int) < c') = true := decide_eq_true (by omega)
              by_cases h3 : c' = 4611686018427387904
              · have e3 : (c' == 4611686018427387904) = true := beq_iff_eq.2 h3
                have HH3 := Lib.hid h3
                clear h3
                go_wp2_with fail
                rw [← hW1]
                clear hW1
                refine (isIndex_any _ _ W1).mono ?_
                rintro e w' ⟨rfl, hw⟩
                rw [hw, tb_true ha]
                clear hw w'
                go_wp2_with fail
                refine (isIndex_any _ _ W1).mono ?_
                rintro e w' ⟨rfl, hw⟩
                rw [hw, tb_true hb']
                clear hw w'
                go_wp2_with fail
                go_roundw
                case rel => exact ⟨k + 1, by omega, by go_num, HB1.out, (all_take_iff HT.out).2 ⟨HB.out.2, ha, hb', .inr HH3.out⟩⟩
                case measure => simp [intOf]; omega
              · have e3 : (c' == 4611686018427387904) = false := beq_eq_false_iff_ne.2 h3
                go_wp2_with fail
                rw [← hW1]
                clear hW1
                refine (isIndex_any _ _ W1).mono ?_
                rintro e w' ⟨rfl, hw⟩
                rw [hw, tb_true ha]
                clear hw w'
                go_wp2_with fail
                refine (isIndex_any _ _ W1).mono ?_
                rintro e w' ⟨rfl, hw⟩
                rw [hw, tb_true hb']
                clear hw w'
                go_wp2_with fail
                go_ret
                exact ⟨ret_no (fun h => by have := (h.1 _ (List.mem_of_getElem? HT.out)).2.2; dsimp only at this; omega), HB1.out⟩
          · have e1 : decide (c' < 1) = true := decide_eq_true (by omega)
            by_cases h3 : c' = 4611686018427387904
            · omega
            · have e3 : (c' == 4611686018427387904) = false := beq_eq_false_iff_ne.2 h3
              go_wp2_with fail
              rw [← hW1]
              clear hW1
              refine (isIndex_any _ _ W1).mono ?_
              rintro e w' ⟨rfl, hw⟩
              rw [hw, tb_true ha]
              clear hw w'
              go_wp2_with fail
              refine (isIndex_any _ _ W1).mono ?_
              rintro e w' ⟨rfl, hw⟩
              rw [hw, tb_true hb']
              clear hw w'
              go_wp2_with fail
              go_ret
              exact ⟨ret_no (fun h => by have := (h.1 _ (List.mem_of_getElem? HT.out)).2.2; dsimp only at this; omega), HB1.out⟩
        · go_wp2_with fail
          rw [← hW1]
          clear hW1
          refine (isIndex_any _ _ W1).mono ?_
          rintro e w' ⟨rfl, hw⟩
          rw [hw, tb_true ha]
          clear hw w'
          go_wp2_with fail
          refine (isIndex_any _ _ W1).mono ?_
          rintro e w' ⟨rfl, hw⟩
          rw [hw, tb_false hb']
          clear hw w'
          go_wp2_with fail
          go_ret
          exact ⟨ret_no (fun h => hb' (h.1 _ (List.mem_of_getElem? HT.out)).2.1), HB1.out⟩
      · go_wp2_with fail
        rw [← hW1]
        clear hW1
        refine (isIndex_any _ _ W1).mono ?_
        rintro e w' ⟨rfl, hw⟩
        rw [hw, tb_false ha]
        clear hw w'
        go_wp2_with fail
        go_ret
        exact ⟨ret_no (fun h => ha (h.1 _ (List.mem_of_getElem? HT.out)).1), HB1.out⟩
    · have hkk : k = m := by omega
      subst hkk
      have q2 := (hb.cell (p := ⟨cb, 2, none⟩) hcb).trans c2
      clear hb hok
      by_cases hm : k ≤ 16384
      · have e1 : decide ((k : Int) ≤ 16384) = true := decide_eq_true (by omega)
        go_wp2_with fail
        go_ret
        refine ⟨ret_yes ⟨?_, hm⟩, HB.out.1⟩
        have := HB.out.2
        rwa [HM.out, List.take_length] at this
      · have e1 : decide ((k : Int) ≤ 16384) = false := decide_eq_false (by omega)
        go_wp2_with fail
        go_ret
        exact ⟨ret_no (fun h => hm h.2), HB.out.1⟩
end Go.Proofs.YtloacoalmfaceaaGreatDoor
