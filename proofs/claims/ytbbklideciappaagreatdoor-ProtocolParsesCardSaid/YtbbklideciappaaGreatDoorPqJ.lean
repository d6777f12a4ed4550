/-
  protocol.Equal: two protocols are equal if they hold the same (printed by genpqj.py).
-/
import Derived.Test.YtbbklideciappaaGreatDoorPqAA
import Derived.BigGuardPart
import Derived.Deep.QuietTactic
import Derived.BigQuiet
import Derived.Deep.Light
namespace Go.Proofs.YtbbklideciappaaGreatDoor
open Go.RowKit Go.Maps

def SameL {α : Type} (xs ys : List α) (w : World) (e : Ending) (w' : World) : Prop := e = .returned (.bool (tb (xs = ys))) ∧ ∃ n, w' = w.drewN n
theorem eq_of_takes {α : Type} {zs ys : List α} (hl : zs.length = ys.length) (h : zs.take zs.length = ys.take zs.length) : zs = ys := by
  rw [List.take_length] at h
  rw [h, hl, List.take_length]
theorem con_iff {p q : Prot} : conOf p = conOf q ↔ p.name = q.name ∧ p.ver = q.ver ∧ p.qs.map conQ = q.qs.map conQ := by
  unfold conOf
  rw [Con.mk.injEq]
theorem conQ_iff {p q : Ques} : conQ p = conQ q ↔ p.text = q.text ∧ p.ans = q.ans := by
  unfold conQ
  rw [Prod.mk.injEq]
theorem map_of {α β : Type} {f : α → β} {xs ys : List α} : xs.map f = ys.map f ↔ xs.length = ys.length ∧ ∀ (i : Nat) (x y : α), xs[i]? = some x → ys[i]? = some y → f x = f y := by
  constructor
  · intro h
    refine ⟨by simpa using congrArg List.length h, fun i x y hx hy => ?_⟩
    have h1 := congrArg (·[i]?) h
    simp only [List.getElem?_map, hx, hy, Option.map_some] at h1
    exact Option.some.inj h1
  · rintro ⟨h1, h2⟩
    apply List.ext_getElem?
    intro i
    rw [List.getElem?_map, List.getElem?_map]
    by_cases hi : i < xs.length
    · have e1 := List.getElem?_eq_getElem hi
      have e2 := List.getElem?_eq_getElem (show i < ys.length by omega)
      rw [e1, e2]
      exact congrArg some (h2 i _ _ e1 e2)
    · rw [List.getElem?_eq_none (by omega), List.getElem?_eq_none (by omega)]
set_option maxRecDepth 100000 in
set_option maxHeartbeats 4000000 in
theorem equalA_any (A C : Option Addr) (c d : Nat) (zs ys : List Ans) (w : World) (B B' : Nat) (ha : RecsAt cellsA w B A zs) (hb : RecsAt cellsA w B' C ys) (na : zs.length ≤ 9223372036854775807) :
    Calls Tryz.prog 43 #[.slice A zs.length c, .slice C ys.length d] w (SameL zs ys w) := by
  by_cases hl : zs.length = ys.length
  · have hlb : ((zs.length : Int) == (ys.length : Int)) = true := by simp [hl]
    have hlb2 : ((zs.length : Int) != (ys.length : Int)) = false := by simp [hl]
    have HL := Lib.hid hl
    clear hl
    go_enter Tryz.func43, Tryz.ntmps43
    go_wp2_with fail
    go_loopw [13] (fun i wr => ∃ k : Nat, k ≤ zs.length ∧ i = .int .i64 k ∧ zs.take k = ys.take k ∧ ∃ n, wr = w.drewN n) (fun i _ => zs.length - (intOf i).toNat)
    case atStart => exact ⟨0, Nat.zero_le _, rfl, rfl, 0, rfl⟩
    case round =>
      obtain ⟨k, hk, rfl, htk, n, rfl⟩ := hrel
      have HTK := Lib.hid htk
      clear htk
      by_cases hlt : k < zs.length
      · have hlt2 : k < ys.length := by rw [← HL.out]; exact hlt
        obtain ⟨z, hz⟩ : ∃ z, zs[k]? = some z := ⟨zs[k], by simp⟩
        obtain ⟨y, hy⟩ : ∃ y, ys[k]? = some y := ⟨ys[k], by simp⟩
        have HZ := Lib.hid hz
        have HY := Lib.hid hy
        obtain ⟨b, o, rfl, hbb, q0, q1, q2, q3⟩ := ans_at ha hz
        obtain ⟨b2, o2, rfl, hbb2, r0, r1, r2, r3⟩ := ans_at hb hy
        clear hz hy
        obtain ⟨x0, x1, x2, x3⟩ := z
        obtain ⟨y0, y1, y2, y3⟩ := y
        dsimp only at q0 q1 q2 q3 r0 r1 r2 r3
        by_cases h0 : x0 = y0
        · subst h0
          have g0 := str_eq (rfl : x0 = x0)
          by_cases h1 : x1 = y1
          · subst h1
            have g1 : (x1 == x1) = true := by simp
            by_cases h2 : x2 = y2
            · subst h2
              have g2 : (x2 == x2) = true := by simp
              by_cases h3 : x3 = y3
              · subst h3
                have g3 := str_eq (rfl : x3 = x3)
                have HT2 : Hid (zs.take (k + 1) = ys.take (k + 1)) := by show _ = _; rw [take_snoc' HZ.out, take_snoc' HY.out, HTK.out]
                clear HZ HY
                go_wp2_with fail
                go_quiet (fail)
                go_wp2_with fail
                go_roundw
                case rel => exact ⟨k + 1, by omega, by go_num, HT2.out, _, rfl⟩
                case measure => simp [intOf]; omega
              · have g3 := str_ne h3
                have H3 := Lib.hid h3
                clear h3
                have HNE : Hid (¬ zs = ys) := by
                  intro e
                  have hz := HZ.out
                  rw [e] at hz
                  exact H3.out (congrArg Ans.code (Option.some.inj (hz.symm.trans HY.out)))
                clear HZ HY
                go_wp2_with fail
                go_quiet (fail)
                go_wp2_with fail
                go_ret
                exact ⟨ret_no HNE.out, n + nq, by rw [World.drewN_drewN]⟩
            · have g2 : (x2 == y2) = false := by simp [h2]
              have HNE : Hid (¬ zs = ys) := by
                intro e
                have hz := HZ.out
                rw [e] at hz
                exact h2 (congrArg Ans.urg (Option.some.inj (hz.symm.trans HY.out)))
              clear HZ HY
              go_wp2_with fail
              go_quiet (fail)
              go_wp2_with fail
              go_ret
              exact ⟨ret_no HNE.out, n + nq, by rw [World.drewN_drewN]⟩
          · have g1 : (x1 == y1) = false := by simp [h1]
            have HNE : Hid (¬ zs = ys) := by
              intro e
              have hz := HZ.out
              rw [e] at hz
              exact h1 (congrArg Ans.next (Option.some.inj (hz.symm.trans HY.out)))
            clear HZ HY
            go_wp2_with fail
            go_quiet (fail)
            go_wp2_with fail
            go_ret
            exact ⟨ret_no HNE.out, n + nq, by rw [World.drewN_drewN]⟩
        · have g0 := str_ne h0
          have H0 := Lib.hid h0
          clear h0
          have HNE : Hid (¬ zs = ys) := by
            intro e
            have hz := HZ.out
            rw [e] at hz
            exact H0.out (congrArg Ans.text (Option.some.inj (hz.symm.trans HY.out)))
          clear HZ HY
          go_wp2_with fail
          go_quiet (fail)
          go_wp2_with fail
          go_ret
          exact ⟨ret_no HNE.out, n + nq, by rw [World.drewN_drewN]⟩
      · have hkk : k = zs.length := by omega
        subst hkk
        have HEQ : Hid (zs = ys) := eq_of_takes HL.out HTK.out
        go_wp2_with fail
        go_ret
        exact ⟨ret_yes HEQ.out, _, rfl⟩
  · have hlb : ((zs.length : Int) == (ys.length : Int)) = false := by simp; omega
    have hlb2 : ((zs.length : Int) != (ys.length : Int)) = true := by simp; omega
    have HNE : Hid (¬ zs = ys) := fun e => hl (by rw [e])
    clear hl
    go_enter Tryz.func43, Tryz.ntmps43
    go_wp2_with fail
    go_ret
    exact ⟨ret_no HNE.out, 0, rfl⟩
set_option maxRecDepth 100000 in
set_option maxHeartbeats 4000000 in
theorem sameQ_any (p q : Ques) (w : World) (ha : RecsAt cellsA w w.heap.size p.aA p.ans) (hb : RecsAt cellsA w w.heap.size q.aA q.ans) (na : p.ans.length ≤ 9223372036854775807) :
    Calls Tryz.prog 42 #[.agg #[.string p.text, .slice p.aA p.ans.length p.ac], .agg #[.string q.text, .slice q.aA q.ans.length q.ac]] w fun e w' => e = .returned (.bool (tb (conQ p = conQ q))) ∧ Below w.heap.size w w' := by
  obtain ⟨pt, pA, pk, pp⟩ := p
  obtain ⟨qt, qA, qk, qq⟩ := q
  dsimp only at ha hb na ⊢
  obtain ⟨W1, hW1⟩ : ∃ W1, W1 = (w.alloc (.cells #[.string pt, .slice pA pk.length pp] 43)).alloc (.cells #[.string qt, .slice qA qk.length qq] 43) := ⟨_, rfl⟩
  have hb1 : Below w.heap.size w W1 := by rw [hW1]; exact ((Below.refl _ _).alloc (Nat.le_refl _) _).alloc (by simp) _
  have HB1 := Lib.hid hb1
  have HE := Lib.hid (equalA_any pA qA pp qq pk qk W1 _ _ (ha.below hb1) (hb.below hb1) na)
  clear hb1 ha hb
  by_cases h0 : pt = qt
  · have e0 := str_eq h0
    have H0 := Lib.hid h0
    clear h0
    go_enter Tryz.func42, Tryz.ntmps42
    go_wp2_with fail
    rw [← hW1]
    clear hW1
    refine HE.out.mono ?_
    rintro e w' ⟨rfl, n, rfl⟩
    go_wp2_with fail
    go_ret
    exact ⟨ret_bool (tb_iff ⟨fun h => conQ_iff.2 ⟨H0.out, h⟩, fun h => (conQ_iff.1 h).2⟩), below_drewN' HB1.out n⟩
  · have e0 := str_ne h0
    have HN : Hid (¬ conQ ⟨pt, pA, pk, pp⟩ = conQ ⟨qt, qA, qk, qq⟩) := fun h => h0 (conQ_iff.1 h).1
    clear h0
    go_enter Tryz.func42, Tryz.ntmps42
    go_wp2_with fail
    rw [← hW1]
    clear hW1
    go_ret
    exact ⟨ret_no HN.out, HB1.out⟩
set_option maxRecDepth 100000 in
set_option maxHeartbeats 8000000 in
theorem equalQ_any (A C : Option Addr) (c d : Nat) (ps qs : List Ques) (w : World) (ha : QuesAt w w.heap.size A ps) (hb : QuesAt w w.heap.size C qs) (na : ps.length ≤ 9223372036854775807) (nl : ∀ p ∈ ps, p.ans.length ≤ 9223372036854775807) :
    Calls Tryz.prog 41 #[.slice A ps.length c, .slice C qs.length d, .func (.func 42) #[] #[]] w fun e w' =>
      e = .returned (.bool (tb (ps.map conQ = qs.map conQ))) ∧ Below w.heap.size w w' := by
  have HI := Lib.hid (And.intro ha (And.intro hb nl))
  obtain ⟨m, hm⟩ : ∃ m, m = ps.length := ⟨_, rfl⟩
  obtain ⟨m2, hm2⟩ : ∃ m, m = qs.length := ⟨_, rfl⟩
  have HM := Lib.hid (And.intro hm hm2)
  rw [← hm] at na ⊢
  rw [← hm2]
  obtain ⟨Q, hQ⟩ : ∃ Q : Prop, Q ↔ (ps.map conQ = qs.map conQ) := ⟨_, Iff.rfl⟩
  have hQ2 : Q ↔ (m = m2 ∧ ∀ (i : Nat) (p q : Ques), ps[i]? = some p → qs[i]? = some q → conQ p = conQ q) := by rw [hQ, map_of, hm, hm2]
  have HQ := Lib.hid hQ2
  rw [← tb_iff hQ]
  clear hQ hQ2 ha hb hm hm2 nl
  by_cases hl : m = m2
  · subst hl
    have hlb2 : ((m : Int) != (m : Int)) = false := by simp
    go_enter Tryz.func41, Tryz.ntmps41
    go_wp2_with fail
    go_loopw [17] (fun i X => ∃ k : Nat, k ≤ m ∧ i = .int .i64 k ∧ Below w.heap.size w X ∧ ∀ (i : Nat) (p q : Ques), i < k → ps[i]? = some p → qs[i]? = some q → conQ p = conQ q) (fun i _ => m - (intOf i).toNat)
    case atStart => exact ⟨0, Nat.zero_le _, rfl, Below.refl _ _, fun i p q h => absurd h (by omega)⟩
    case round =>
      obtain ⟨k, hk, rfl, hb, hso⟩ := hrel
      have HB := Lib.hid (And.intro hb hso)
      clear hso
      by_cases hlt : k < m
      · have hlt' : (k : Int) < (m : Int) := by omega
        obtain ⟨p, hp⟩ : ∃ p, ps[k]? = some p := ⟨ps[k]'(by have := HM.out.1; omega), by simp⟩
        obtain ⟨q, hq⟩ : ∃ q, qs[k]? = some q := ⟨qs[k]'(by have := HM.out.2; omega), by simp⟩
        obtain ⟨b, o, hA, hbb, y0, y1, yk⟩ := ques_at (HI.out.1.below hb) hp
        obtain ⟨b2, o2, hC, hbb2, z0, z1, zk⟩ := ques_at (HI.out.2.1.below hb) hq
        rw [hA, hC]
        have HPQ := Lib.hid (And.intro hp (And.intro hq (And.intro hA hC)))
        have hb1 : Below wr.heap.size wr ((wr.alloc (.cells #[.string p.text, .slice p.aA p.ans.length p.ac] 43)).alloc (.cells #[.string q.text, .slice q.aA q.ans.length q.ac] 43)) := ((Below.refl _ _).alloc (Nat.le_refl _) _).alloc (by simp) _
        have hs1 : wr.heap.size ≤ ((wr.alloc (.cells #[.string p.text, .slice p.aA p.ans.length p.ac] 43)).alloc (.cells #[.string q.text, .slice q.aA q.ans.length q.ac] 43)).heap.size := hb1.size
        have HC := Lib.hid (sameQ_any p q ((wr.alloc (.cells #[.string p.text, .slice p.aA p.ans.length p.ac] 43)).alloc (.cells #[.string q.text, .slice q.aA q.ans.length q.ac] 43)) ((RecsAt.below yk (hb1.mono hb.size)).more (Nat.le_trans hb.size hs1)) ((RecsAt.below zk (hb1.mono hb.size)).more (Nat.le_trans hb.size hs1)) (HI.out.2.2 p (List.mem_of_getElem? hp)))
        obtain ⟨W2, hW2⟩ : ∃ W2, W2 = ((wr.alloc (.cells #[.string p.text, .slice p.aA p.ans.length p.ac] 43)).alloc (.cells #[.string q.text, .slice q.aA q.ans.length q.ac] 43)) := ⟨_, rfl⟩
        rw [← hW2] at hb1 hs1 HC
        have HB1 := Lib.hid (hb.trans (hb1.mono hb.size))
        have hbw : b2 < wr.heap.size := Nat.lt_of_lt_of_le hbb2 hb.size
        obtain ⟨X, hX⟩ : ∃ X : Prop, X = (conQ p = conQ q) := ⟨_, rfl⟩
        have HX := Lib.hid hX
        rw [← hX] at HC
        obtain ⟨pt, pA, pk, pp⟩ := p
        obtain ⟨qt, qA, qk, qq⟩ := q
        dsimp only at y0 y1 z0 z1 hW2 HC
        clear hb hb1 hs1 hX hp hq hA hC yk zk hbb hbb2
        by_cases hx : X
        · rw [tb_true hx] at HC
          go_wp2_with fail
          rw [← hW2]
          clear hW2
          refine HC.out.mono ?_
          rintro e w' ⟨rfl, hb'⟩
          have HB' := Lib.hid (HB1.out.trans (hb'.mono HB1.out.size))
          clear hb'
          go_wp2_with fail
          go_roundw
          case rel => exact ⟨k + 1, by omega, by go_num, HB'.out, fun i p' q' hi hp' hq' => by
            by_cases e : i = k
            · subst e
              rw [HPQ.out.1] at hp'
              rw [HPQ.out.2.1] at hq'
              injection hp' with hp'
              injection hq' with hq'
              rw [← hp', ← hq', ← HX.out]
              exact hx
            · exact HB.out.2 i p' q' (by omega) hp' hq'⟩
          case measure => simp [intOf]; omega
        · rw [tb_false hx] at HC
          go_wp2_with fail
          rw [← hW2]
          clear hW2
          refine HC.out.mono ?_
          rintro e w' ⟨rfl, hb'⟩
          have HB' := Lib.hid (HB1.out.trans (hb'.mono HB1.out.size))
          clear hb'
          go_wp2_with fail
          go_ret
          exact ⟨ret_no (fun h => hx (by rw [HX.out]; exact (HQ.out.1 h).2 k _ _ HPQ.out.1 HPQ.out.2.1)), HB'.out⟩
      · have hkk : k = m := by omega
        subst hkk
        clear hb
        go_wp2_with fail
        go_ret
        exact ⟨ret_yes (HQ.out.2 ⟨trivial, fun i p q hi => HB.out.2 i p q (by have := (List.getElem?_eq_some_iff.1 hi).1; have := HM.out.1; omega) hi⟩), HB.out.1⟩
  · have hlb2 : ((m : Int) != (m2 : Int)) = true := by simp; omega
    have HN : Hid (¬ Q) := fun h => hl (HQ.out.1 h).1
    clear hl
    go_enter Tryz.func41, Tryz.ntmps41
    go_wp2_with fail
    go_ret
    exact ⟨ret_no HN.out, Below.refl _ _⟩
end Go.Proofs.YtbbklideciappaaGreatDoor
