/-
  config.Equal's closure (two plans are the same) and slices.EqualFunc with it.
-/
import Derived.Test.YtloacoalmfaceaaGreatDoorEqA6
namespace Go.Proofs.YtloacoalmfaceaaGreatDoor
open Go.RowKit Go.Maps

theorem below_dr {B : Nat} {w w' : World} (h : Below B w w') (n : Nat) : Below B w (w'.drewN n) := h.trans ⟨rfl, rfl, rfl, Nat.le_refl _, fun _ _ => rfl⟩
def SameP (p q : Plan) : Prop := p.code = q.code ∧ p.urg = q.urg ∧ p.kinds = q.kinds
def planCells (p : Plan) : Array Value := #[.string p.code, .int .i64 p.urg, .slice p.kA p.kinds.length p.kc]
set_option maxRecDepth 100000 in
set_option maxHeartbeats 4000000 in
theorem samePlan_any (p q : Plan) (w : World) (B B' : Nat) (ha : Sl w B p.kA (p.kinds.map (Value.int .i64))) (hb : Sl w B' q.kA (q.kinds.map (Value.int .i64))) (hB : B ≤ w.heap.size) (hB' : B' ≤ w.heap.size)
    (na : p.kinds.length ≤ 9223372036854775807) :
    Calls Tryz.prog 43 #[.agg (planCells p), .agg (planCells q)] w fun e w' => e = .returned (.bool (tb (SameP p q))) ∧ Below w.heap.size w w' := by
  obtain ⟨pc, pu, pA, pk, pp⟩ := p
  obtain ⟨qc, qu, qA, qk, qq⟩ := q
  unfold planCells
  dsimp only at ha hb na ⊢
  obtain ⟨W1, hW1⟩ : ∃ W1, W1 = (w.alloc (.cells #[.string pc, .int .i64 pu, .slice pA pk.length pp] 43)).alloc (.cells #[.string qc, .int .i64 qu, .slice qA qk.length qq] 43) := ⟨_, rfl⟩
  have hb1 : Below w.heap.size w W1 := by rw [hW1]; exact ((Below.refl _ _).alloc (Nat.le_refl _) _).alloc (by simp) _
  have HB1 := Lib.hid hb1
  have HE := Lib.hid (equalI_any pA qA pp qq pk qk W1 B B' (ha.below (hb1.mono hB)) (hb.below (hb1.mono hB')) na)
  clear hb1 ha hb hB hB'
  by_cases h0 : pc = qc
  · have e0 := str_eq h0
    have H0 := Lib.hid h0
    clear h0
    by_cases h1 : pu = qu
    · have e1 : (pu == qu) = true := by simp [h1]
      have H1 := Lib.hid h1
      clear h1
      go_enter Tryz.func43, Tryz.ntmps43
      go_wp2_with fail
      rw [← hW1]
      clear hW1
      refine HE.out.mono ?_
      rintro e w' ⟨rfl, n, rfl⟩
      go_wp2_with fail
      go_ret
      exact ⟨ret_bool (tb_iff ⟨fun h => ⟨H0.out, H1.out, h⟩, fun h => h.2.2⟩), below_dr HB1.out n⟩
    · have e1 : (pu == qu) = false := by simp [h1]
      have HN : Hid (¬ SameP ⟨pc, pu, pA, pk, pp⟩ ⟨qc, qu, qA, qk, qq⟩) := fun h => h1 h.2.1
      clear h1
      go_enter Tryz.func43, Tryz.ntmps43
      go_wp2_with fail
      rw [← hW1]
      clear hW1
      go_ret
      exact ⟨ret_no HN.out, HB1.out⟩
  · have e0 := str_ne h0
    have HN : Hid (¬ SameP ⟨pc, pu, pA, pk, pp⟩ ⟨qc, qu, qA, qk, qq⟩) := fun h => h0 h.1
    clear h0
    go_enter Tryz.func43, Tryz.ntmps43
    go_wp2_with fail
    rw [← hW1]
    clear hW1
    go_ret
    exact ⟨ret_no HN.out, HB1.out⟩
set_option maxRecDepth 100000 in
set_option maxHeartbeats 8000000 in
theorem equalP_any (A C : Option Addr) (c d : Nat) (ps qs : List Plan) (w : World) (ha : Plans w w.heap.size A ps) (hb : Plans w w.heap.size C qs) (na : ps.length ≤ 9223372036854775807) :
    Calls Tryz.prog 47 #[.slice A ps.length c, .slice C qs.length d, .func (.func 43) #[] #[]] w fun e w' =>
      e = .returned (.bool (tb (ps.length = qs.length ∧ ∀ (i : Nat) (p q : Plan), ps[i]? = some p → qs[i]? = some q → SameP p q))) ∧ Below w.heap.size w w' := by
  have HI := Lib.hid (And.intro ha hb)
  obtain ⟨m, hm⟩ : ∃ m, m = ps.length := ⟨_, rfl⟩
  obtain ⟨m2, hm2⟩ : ∃ m, m = qs.length := ⟨_, rfl⟩
  have HM := Lib.hid (And.intro hm hm2)
  rw [← hm] at na ⊢
  rw [← hm2]
  clear ha hb hm hm2
  obtain ⟨Q, hQ⟩ : ∃ Q : Prop, Q ↔ (m = m2 ∧ ∀ (i : Nat) (p q : Plan), ps[i]? = some p → qs[i]? = some q → SameP p q) := ⟨_, Iff.rfl⟩
  have HQ := Lib.hid hQ
  rw [← tb_iff hQ]
  clear hQ
  by_cases hl : m = m2
  · subst hl
    have hlb2 : ((m : Int) != (m : Int)) = false := by simp
    go_enter Tryz.func47, Tryz.ntmps47
    go_wp2_with fail
    go_loopw [17] (fun i X => ∃ k : Nat, k ≤ m ∧ i = .int .i64 k ∧ Below w.heap.size w X ∧ ∀ (i : Nat) (p q : Plan), i < k → ps[i]? = some p → qs[i]? = some q → SameP p q) (fun i _ => m - (intOf i).toNat)
    case atStart => exact ⟨0, Nat.zero_le _, rfl, Below.refl _ _, fun i p q h => absurd h (by omega)⟩
    case round =>
      obtain ⟨k, hk, rfl, hb, hso⟩ := hrel
      have HB := Lib.hid (And.intro hb hso)
      clear hso
      by_cases hlt : k < m
      · have hlt' : (k : Int) < (m : Int) := by omega
        obtain ⟨p, hp⟩ : ∃ p, ps[k]? = some p := ⟨ps[k]'(by have := HM.out.1; omega), by simp⟩
        obtain ⟨q, hq⟩ : ∃ q, qs[k]? = some q := ⟨qs[k]'(by have := HM.out.2; omega), by simp⟩
        obtain ⟨⟨b, o, hA, hbb, y0, y1, y2, yk⟩, hwf⟩ := (HI.out.1.below hb) k p hp
        obtain ⟨⟨b2, o2, hC, hbb2, z0, z1, z2, zk⟩, hwf2⟩ := (HI.out.2.below hb) k q hq
        rw [hA, hC]
        have HPQ := Lib.hid (And.intro hp (And.intro hq (And.intro hA hC)))
        have hb1 : Below wr.heap.size wr ((wr.alloc (.cells (planCells p) 43)).alloc (.cells (planCells q) 43)) := ((Below.refl _ _).alloc (Nat.le_refl _) _).alloc (by simp) _
        have hs1 : wr.heap.size ≤ ((wr.alloc (.cells (planCells p) 43)).alloc (.cells (planCells q) 43)).heap.size := hb1.size
        have HC := Lib.hid (samePlan_any p q ((wr.alloc (.cells (planCells p) 43)).alloc (.cells (planCells q) 43)) w.heap.size w.heap.size (yk.below (hb1.mono hb.size)) (zk.below (hb1.mono hb.size)) (Nat.le_trans hb.size hs1) (Nat.le_trans hb.size hs1) (Nat.le_trans hwf.len hwf.cap))
        obtain ⟨W2, hW2⟩ : ∃ W2, W2 = ((wr.alloc (.cells (planCells p) 43)).alloc (.cells (planCells q) 43)) := ⟨_, rfl⟩
        rw [← hW2] at hb1 hs1 HC
        have HB1 := Lib.hid (hb.trans (hb1.mono hb.size))
        have hbw : b2 < wr.heap.size := Nat.lt_of_lt_of_le hbb2 hb.size
        obtain ⟨X, hX⟩ : ∃ X : Prop, X = SameP p q := ⟨_, rfl⟩
        have HX := Lib.hid hX
        rw [← hX] at HC
        obtain ⟨pc, pu, pA, pk, pp⟩ := p
        obtain ⟨qc, qu, qA, qk, qq⟩ := q
        unfold planCells at hW2 HC
        dsimp only at y0 y1 y2 z0 z1 z2 hW2 HC
        clear hb hb1 hs1 hX hp hq hA hC yk zk hwf hwf2 hbb hbb2
        by_cases hx : X
        · rw [tb_true hx] at HC
          go_wp2_with fail
          rw [← hW2]
          clear hW2
          refine HC.out.mono ?_
          rintro e w' ⟨rfl, hb'⟩
          have HB' := Lib.hid (HB1.out.trans (hb'.mono HB1.out.size))
          clear hb'
          go_wp2_with fail
          go_roundw
          case rel => exact ⟨k + 1, by omega, by go_num, HB'.out, fun i p' q' hi hp' hq' => by
            by_cases e : i = k
            · subst e
              rw [HPQ.out.1] at hp'
              rw [HPQ.out.2.1] at hq'
              injection hp' with hp'
              injection hq' with hq'
              rw [← hp', ← hq', ← HX.out]
              exact hx
            · exact HB.out.2 i p' q' (by omega) hp' hq'⟩
          case measure => simp [intOf]; omega
        · rw [tb_false hx] at HC
          go_wp2_with fail
          rw [← hW2]
          clear hW2
          refine HC.out.mono ?_
          rintro e w' ⟨rfl, hb'⟩
          have HB' := Lib.hid (HB1.out.trans (hb'.mono HB1.out.size))
          clear hb'
          go_wp2_with fail
          go_ret
          exact ⟨ret_no (fun h => hx (by rw [HX.out]; exact (HQ.out.1 h).2 k _ _ HPQ.out.1 HPQ.out.2.1)), HB'.out⟩
      · have hkk : k = m := by omega
        subst hkk
        clear hb
        go_wp2_with fail
        go_ret
        exact ⟨ret_yes (HQ.out.2 ⟨trivial, fun i p q hi => HB.out.2 i p q (by have := (List.getElem?_eq_some_iff.1 hi).1; have := HM.out.1; omega) hi⟩), HB.out.1⟩
  · have hlb2 : ((m : Int) != (m2 : Int)) = true := by simp; omega
    have HN : Hid (¬ Q) := fun h => hl (HQ.out.1 h).1
    clear hl
    go_enter Tryz.func47, Tryz.ntmps47
    go_wp2_with fail
    go_ret
    exact ⟨ret_no HN.out, Below.refl _ _⟩
end Go.Proofs.YtloacoalmfaceaaGreatDoor
