/-
  The changes between two ticks: plain lemmas; the reference's Changes.
-/
import Derived.Test.YtegifbmcapnkdaaDoorRefH
namespace Go.Proofs.YtegifbmcapnkdaaDoor
open Go.RowKit Go.Maps

def inR (a b : Int) (c : ChgT) : Bool := decide (a ≤ c.tick) && decide (c.tick < b)
def chgsL (L : List ChgT) (a b : Int) : List ChgT := L.filter (inR a b)

theorem split_rev (x : Int) : ∀ s : List ChgT, Asc s.reverse → (∀ c ∈ s.reverse.take (cntB s.reverse x), c.tick < x) ∧ ∀ c ∈ s.reverse.drop (cntB s.reverse x), x ≤ c.tick
  | [], _ => ⟨fun c h => by simp at h, fun c h => by simp at h⟩
  | d :: s, h => by
    rw [List.reverse_cons] at h ⊢
    obtain ⟨h1, h2⟩ := asc_init h
    obtain ⟨i1, i2⟩ := split_rev x s h1
    have hle := cntB_le s.reverse x
    rw [cntB_snoc]
    by_cases q : x ≤ d.tick
    · rw [if_pos q, Nat.add_zero, List.take_append_of_le_length hle, List.drop_append_of_le_length hle]
      refine ⟨i1, fun c hc => ?_⟩
      rw [List.mem_append] at hc
      rcases hc with hc | hc
      · exact i2 c hc
      · have : c = d := by simpa using hc
        rw [this]
        exact q
    · have hall : ∀ c ∈ s.reverse, c.tick < x := fun c hc => by have := h2 c hc; omega
      rw [if_neg q, cntB_all hall]
      have hl : (s.reverse ++ [d]).length = s.reverse.length + 1 := by simp
      rw [← hl, List.take_length, List.drop_length]
      refine ⟨fun c hc => ?_, fun c hc => by simp at hc⟩
      rw [List.mem_append] at hc
      rcases hc with hc | hc
      · exact hall c hc
      · have : c = d := by simpa using hc
        rw [this]
        omega
theorem split_at {L : List ChgT} (h : Asc L) (x : Int) : (∀ c ∈ L.take (cntB L x), c.tick < x) ∧ ∀ c ∈ L.drop (cntB L x), x ≤ c.tick := by
  have := split_rev x L.reverse (by rw [List.reverse_reverse]; exact h)
  rwa [List.reverse_reverse] at this
theorem chgs_cut {L : List ChgT} (h : Asc L) (a b : Int) : (L.drop (cntB L a)).take (max (cntB L a) (cntB L b) - cntB L a) = chgsL L a b := by
  obtain ⟨a1, a2⟩ := split_at h a
  obtain ⟨b1, b2⟩ := split_at h b
  have e0 : chgsL L a b = (L.drop (cntB L a)).filter (inR a b) := by
    have e1 : L = L.take (cntB L a) ++ L.drop (cntB L a) := (List.take_append_drop _ _).symm
    unfold chgsL
    conv => lhs; rw [e1]
    rw [List.filter_append, List.filter_eq_nil_iff.2 ?_, List.nil_append]
    intro c hc
    have := a1 c hc
    simp [inR]
    omega
  rw [e0]
  by_cases q : cntB L a ≤ cntB L b
  · have e2 : L.drop (cntB L a) = (L.drop (cntB L a)).take (cntB L b - cntB L a) ++ L.drop (cntB L b) := by
      have e3 : (L.drop (cntB L a)).drop (cntB L b - cntB L a) = L.drop (cntB L b) := by
        rw [List.drop_drop]
        congr 1
        omega
      rw [← e3]
      exact (List.take_append_drop _ _).symm
    have e4 : max (cntB L a) (cntB L b) = cntB L b := by omega
    rw [e4]
    conv => rhs; rw [e2]
    have e6 : (L.drop (cntB L b)).filter (inR a b) = [] := by
      rw [List.filter_eq_nil_iff]
      intro c hc
      have := b2 c hc
      simp [inR]
      omega
    rw [List.filter_append, e6, List.append_nil]
    · symm
      rw [List.filter_eq_self]
      intro c hc
      have h1 := a2 c (List.mem_of_mem_take hc)
      have h2 : c ∈ L.take (cntB L b) := by
        have e5 : (L.drop (cntB L a)).take (cntB L b - cntB L a) = (L.take (cntB L b)).drop (cntB L a) := by
          rw [List.drop_take]
        rw [e5] at hc
        exact List.mem_of_mem_drop hc
      have h3 := b1 c h2
      simp [inR]
      omega
  · have e4 : max (cntB L a) (cntB L b) = cntB L a := by omega
    rw [e4, Nat.sub_self, List.take_zero]
    symm
    rw [List.filter_eq_nil_iff]
    intro c hc
    have h1 : c ∈ L.drop (cntB L b) := by
      have e5 : L.drop (cntB L a) = (L.drop (cntB L b)).drop (cntB L a - cntB L b) := by
        rw [List.drop_drop]
        congr 1
        omega
      rw [e5] at hc
      exact List.mem_of_mem_drop hc
    have := b2 c h1
    simp [inR]
    omega
theorem chgsL_take {L : List ChgT} {k : Nat} {c : ChgT} (h : L[k]? = some c) (a b : Int) : chgsL (L.take (k + 1)) a b = chgsL (L.take k) a b ++ (if inR a b c = true then [c] else []) := by
  have hk := (List.getElem?_eq_some_iff.1 h).1
  have e : L.take (k + 1) = L.take k ++ [c] := by rw [List.take_succ_eq_append_getElem hk, (List.getElem?_eq_some_iff.1 h).2]
  rw [e]
  unfold chgsL
  rw [List.filter_append]
  cases q : inR a b c <;> simp [q]
theorem chgsL_len (L : List ChgT) (a b : Int) : (chgsL L a b).length ≤ L.length := List.length_filter_le _ _

section
variable {w : World} {E : List EdgeT} {L : List ChgT} {FA LA : Option Addr} {lc : Nat}
/-- what the reference's Changes returns. -/
def RetBetween (w : World) (L : List ChgT) (a b : Int) (e : Ending) (w' : World) : Prop := ∃ v, e = .returned v ∧ OwnC w' w.heap.size 25 v (chgsL L a b) ∧ Below w.heap.size w w'
set_option maxHeartbeats 2000000 in
theorem between_any (h : RoadsAt w E L FA LA lc) (fc : Nat) (hl : L.length ≤ 100000) (a b : Int) :
    Calls Tryd.prog 14 #[.agg #[.slice FA E.length fc, .slice LA L.length lc], .int .i64 a, .int .i64 b] w (RetBetween w L a b) := by
  obtain ⟨m, hm⟩ : ∃ m, m = L.length := ⟨_, rfl⟩
  have HM := Lib.hid hm
  rw [← hm] at hl ⊢
  obtain ⟨W, hW⟩ : ∃ W, W = w.alloc (.cells #[.slice FA E.length fc, .slice LA m lc] 30) := ⟨_, rfl⟩
  have HB0 := Lib.hid (show Below w.heap.size w W from by rw [hW]; exact (Below.refl w.heap.size w).alloc (Nat.le_refl _) _)
  have hz : w.heap.size < W.heap.size := by rw [hW]; simp
  have HH := Lib.hid h.list
  have HW := Lib.hid hW
  clear h hW hm
  go_enter Tryd.func14, Tryd.ntmps14
  go_wp2_with fail
  rw [← HW.out]
  go_loopw [7, 9, 13] (fun v _ iv wr => ∃ k : Nat, k ≤ m ∧ iv = .int .i64 k ∧ OwnC wr W.heap.size 25 v (chgsL (L.take k) a b) ∧ Below W.heap.size W wr) (fun _ _ i _ => m - (intOf i).toNat)
  case atStart => exact ⟨0, Nat.zero_le _, rfl, OwnR.nil _ _ _, Below.refl _ _⟩
  case round =>
    obtain ⟨k, hk, rfl, hown, hb⟩ := hrel
    have HOW := Lib.hid hown
    have HBR := Lib.hid hb
    have HB := Lib.hid (HB0.out.trans (hb.mono (Nat.le_of_lt hz)))
    by_cases hlt : k < m
    · obtain ⟨d, hd⟩ : ∃ d, L[k]? = some d := ⟨L[k]'(by have := HM.out; omega), by simp⟩
      obtain ⟨b', o', rfl, _, p0, p1, p2⟩ := chg_at (HH.out.below HB.out) hd
      have HS := Lib.hid (chgsL_take hd a b)
      have HOW1 := Lib.hid (HOW.out.alloc (.cells #[.int .i64 d.tick, .int .i64 d.edge, .int .i64 d.time] 25))
      have HB1 := Lib.hid (HBR.out.alloc HBR.out.size (.cells #[.int .i64 d.tick, .int .i64 d.edge, .int .i64 d.time] 25))
      have hcl : (chgsL (L.take k) a b).length ≤ k := Nat.le_trans (chgsL_len _ _ _) (List.length_take_le _ _)
      obtain ⟨W1, hW1⟩ : ∃ W1, W1 = wr.alloc (.cells #[.int .i64 d.tick, .int .i64 d.edge, .int .i64 d.time] 25) := ⟨_, rfl⟩
      have HW1 := Lib.hid hW1
      clear hown hb hd hW1
      by_cases h1 : a ≤ d.tick
      · have d1 : decide (a ≤ d.tick) = true := by simpa using h1
        by_cases h2 : d.tick < b
        · have d2 : decide (d.tick < b) = true := by simpa using h2
          have HS2 := Lib.hid (HS.out.trans (by rw [if_pos (show inR a b d = true by simp [inR, h1, h2])]))
          clear h1 h2
          go_wp2_with (at_builtin; refine wpList_append_rec (cs := cellsC) (s := 3) _ rfl _ _ 23 rfl W.heap.size 25 Tryd.underlying23 chg_info rfl (by decide) (by decide) cellsC_len _ (chgsL (L.take k) a b) (wr.alloc (.cells #[.int .i64 d.tick, .int .i64 d.edge, .int .i64 d.time] 25)) d (cellsC_one _) _ rfl rfl rfl HOW1.out _ rfl (by simp) (by omega) HB1.out.size ?_; intro v' w' hown' hgrow')
          go_roundw
          case rel =>
            refine ⟨k + 1, by omega, by go_num, ?_, HB1.out.grown hgrow' HB1.out.size (fun j e => HOW1.out.ge_base j e)⟩
            rw [HS2.out]
            exact hown'
          case measure => simp [intOf]; omega
        · have d2 : decide (d.tick < b) = false := by simpa using h2
          have HS2 := Lib.hid (HS.out.trans (by rw [if_neg (show ¬ inR a b d = true by simp [inR, h2]), List.append_nil]))
          clear h1 h2
          go_wp2_with fail
          go_roundw
          case rel => exact ⟨k + 1, by omega, by go_num, by rw [HS2.out]; exact HOW1.out, HB1.out⟩
          case measure => simp [intOf]; omega
      · have d1 : decide (a ≤ d.tick) = false := by simpa using h1
        have HS2 := Lib.hid (HS.out.trans (by rw [if_neg (show ¬ inR a b d = true by simp [inR, h1]), List.append_nil]))
        clear h1
        go_wp2_with fail
        go_roundw
        case rel => exact ⟨k + 1, by omega, by go_num, by rw [HS2.out]; exact HOW1.out, HB1.out⟩
        case measure => simp [intOf]; omega
    · have hkk : k = m := by omega
      subst hkk
      clear hown hb
      go_wp2_with fail
      go_ret
      refine ⟨_, rfl, ?_, HB.out⟩
      have h1 := HOW.out
      rw [HM.out, List.take_length] at h1
      exact OwnR.base_le h1 (Nat.le_of_lt hz)
end
end Go.Proofs.YtegifbmcapnkdaaDoor
