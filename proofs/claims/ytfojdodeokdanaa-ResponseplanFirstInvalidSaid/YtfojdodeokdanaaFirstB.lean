/-
  samaritanref31.Right and responseplan.FirstInvalid return the index of the first plan that is invalid or repeats a name, or -1, for every slice of plans.
-/
import Derived.Test.YtfojdodeokdanaaFirst
namespace Go.Proofs.Ytfojdodeokdanaa
open Go.RowKit Go.Maps Go.Joins

def sameN (q p : Plan) : Bool := q.code.toList == p.code.toList && q.urg == p.urg
def Good (ps : List Plan) (i : Nat) (p : Plan) : Prop := validB p = true ∧ ∀ (j : Nat) (q : Plan), j < i → ps[j]? = some q → sameN q p = false
def Goods (ps : List Plan) (k : Nat) : Prop := ∀ (j : Nat) (q : Plan), j < k → ps[j]? = some q → Good ps j q
def Bad (ps : List Plan) (r : Int) : Prop := (r = -1 ∧ Goods ps ps.length) ∨ ∃ (i : Nat) (p : Plan), r = i ∧ ps[i]? = some p ∧ ¬ Good ps i p ∧ Goods ps i

theorem lt_of_get {α : Type} {l : List α} {i : Nat} {x : α} (h : l[i]? = some x) : i < l.length := (List.getElem?_eq_some_iff.1 h).1

theorem Bad.unique {ps : List Plan} {r r' : Int} (h : Bad ps r) (h' : Bad ps r') : r = r' := by
  rcases h with ⟨rfl, h⟩ | ⟨i, p, rfl, hp, hn, hg⟩
  · rcases h' with ⟨rfl, _⟩ | ⟨i', p', rfl, hp', hn', _⟩
    · rfl
    · exact absurd (h i' p' (lt_of_get hp') hp') hn'
  · rcases h' with ⟨rfl, h⟩ | ⟨i', p', rfl, hp', hn', hg'⟩
    · exact absurd (h i p (lt_of_get hp) hp) hn
    · rcases Nat.lt_trichotomy i i' with q | q | q
      · exact absurd (hg' i p q hp) hn
      · rw [q]
      · exact absurd (hg i' p' q hp') hn'
theorem Goods.succ {ps : List Plan} {k : Nat} {p : Plan} (h : Goods ps k) (hp : ps[k]? = some p) (hg : Good ps k p) : Goods ps (k + 1) := by
  intro j q hj hq
  by_cases e : j = k
  · subst e
    rw [hp] at hq
    injection hq with hq
    subst hq
    exact hg
  · exact h j q (by omega) hq

def RetBad (ps : List Plan) (w : World) (e : Ending) (w' : World) : Prop := ∃ r : Int, e = .returned (.int .i64 r) ∧ Bad ps r ∧ Below w.heap.size w w'

set_option maxRecDepth 100000 in
set_option maxHeartbeats 1000000 in
theorem right_any (A : Option Addr) (c : Nat) (ps : List Plan) (w : World) (hp : Plans w w.heap.size A ps) (hl : ps.length ≤ 9223372036854775807) :
    Calls Try.prog 20 #[.slice A ps.length c] w (RetBad ps w) := by
  go_enter Try.func20, Try.ntmps20
  go_wp2_with fail
  go_loopw [3] (fun i wr => ∃ k : Nat, k ≤ ps.length ∧ i = .int .i64 k ∧ Goods ps k ∧ Below w.heap.size w wr) (fun i _ => ps.length - (intOf i).toNat)
  case atStart => exact ⟨0, Nat.zero_le _, rfl, fun j q h => absurd h (by omega), Below.refl _ _⟩
  case round =>
    obtain ⟨k, hk, rfl, hgs, hnx⟩ := hrel
    by_cases hlt : k < ps.length
    · obtain ⟨p, hpk⟩ : ∃ p, ps[k]? = some p := ⟨ps[k], by simp⟩
      obtain ⟨⟨b, o, rfl, hb, c0, c1, c2, hsl⟩, hwf⟩ := (hp.below hnx) k p hpk
      have HPK := Lib.hid hpk
      have hz := hnx.size
      clear hpk
      go_wp2_with fail
      refine (one_any p wr (hsl.more hz) hwf).mono ?_
      rintro e w1 ⟨rfl, hb1⟩
      have hb1' := hnx.trans (hb1.mono hz)
      have HB1 := Lib.hid hb1'
      clear hb1 hb1' hnx
      cases hv : validB p
      · have HN : Hid (¬ Good ps k p) := fun q => by rw [q.1] at hv; cases hv
        clear hv
        go_wp2_with fail
        go_ret
        exact ⟨k, rfl, .inr ⟨k, p, rfl, HPK.out, HN.out, hgs⟩, HB1.out⟩
      · have HV := Lib.hid hv
        clear hv
        go_wp2_with fail
        go_loopw [4] (fun i wr => ∃ j : Nat, j ≤ k ∧ i = .int .i64 j ∧ (∀ (i : Nat) (q : Plan), i < j → ps[i]? = some q → sameN q p = false) ∧ Below w.heap.size w wr) (fun i _ => k - (intOf i).toNat)
        case atStart => exact ⟨0, Nat.zero_le _, rfl, fun i q h => absurd h (by omega), HB1.out⟩
        case round =>
          clear hz c0 c1 c2 hsl
          obtain ⟨j, hj, rfl, hno, hnx⟩ := hrel
          have HNO := Lib.hid hno
          clear hno
          by_cases hjk : j < k
          · obtain ⟨q, hqj⟩ : ∃ q, ps[j]? = some q := ⟨ps[j]'(by omega), by simp⟩
            obtain ⟨⟨b1, o1, e1, _, d0, d1, d2, _⟩, _⟩ := (hp.below hnx) j q hqj
            obtain ⟨⟨b2, o2, e2, _, c0, c1, c2, _⟩, _⟩ := (hp.below hnx) k p HPK.out
            injection e1 with e1
            injection e1 with e1 e1'
            subst e1 e1'
            injection e2 with e2
            injection e2 with e2 e2'
            subst e2 e2'
            have HQ := Lib.hid hqj
            have hjl : (j : Int) < (ps.length : Int) := by omega
            have hkl : (k : Int) < (ps.length : Int) := by omega
            have hj0 : (0 : Int) ≤ (j : Int) := by omega
            have hk0 : (0 : Int) ≤ (k : Int) := by omega
            clear hqj
            cases hs : sameN q p
            · have HT : Hid (∀ (i : Nat) (x : Plan), i < j + 1 → ps[i]? = some x → sameN x p = false) := by
                intro i x hi hx
                by_cases e : i = j
                · subst e
                  rw [HQ.out] at hx
                  injection hx with hx
                  subst hx
                  exact hs
                · exact HNO.out i x (by omega) hx
              have hs' : ¬ (q.code.toList = p.code.toList ∧ q.urg = p.urg) := by
                intro x
                simp [sameN, x.1, x.2] at hs
              clear hs
              by_cases f1 : q.code.toList = p.code.toList
              · have f2 : (q.urg == p.urg) = false := by
                  simp only [beq_eq_false_iff_ne]
                  exact fun x => hs' ⟨f1, x⟩
                have f1' : (q.code.toList == p.code.toList) = true := by simp [f1]
                clear hs' f1
                go_wp2_with fail
                go_quiet (fail)
                go_wp2_with fail
                go_roundw
                case rel => exact ⟨j + 1, by omega, by go_num, HT.out, below_drewN hnx _⟩
                case measure => simp [intOf]; omega
              · have f1' : (q.code.toList == p.code.toList) = false := by simp [f1]
                clear hs'
                go_wp2_with fail
                go_quiet (fail)
                go_wp2_with fail
                go_roundw
                case rel => exact ⟨j + 1, by omega, by go_num, HT.out, below_drewN hnx _⟩
                case measure => simp [intOf]; omega
            · have HN : Hid (¬ Good ps k p) := fun x => by rw [x.2 j q hjk HQ.out] at hs; cases hs
              have f1 : (q.code.toList == p.code.toList) = true := by simp [sameN] at hs; simp [hs.1]
              have f2 : (q.urg == p.urg) = true := by simp [sameN] at hs; simp [hs.2]
              clear hs
              go_wp2_with fail
              go_quiet (fail)
              go_wp2_with fail
              go_ret
              exact ⟨k, rfl, .inr ⟨k, p, rfl, HPK.out, HN.out, hgs⟩, below_drewN hnx _⟩
          · have hjj : j = k := by omega
            subst hjj
            have HG : Hid (Goods ps (j + 1)) := hgs.succ HPK.out ⟨HV.out, HNO.out⟩
            go_wp2_with fail
            go_roundw
            case rel => exact ⟨j + 1, by omega, by go_num, HG.out, hnx⟩
            case measure => simp [intOf]; omega
    · have hkk : k = ps.length := by omega
      subst hkk
      go_wp2_with fail
      go_ret
      exact ⟨-1, rfl, .inl ⟨rfl, hgs⟩, hnx⟩
end Go.Proofs.Ytfojdodeokdanaa
