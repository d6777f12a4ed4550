/-
  samaritanlaw02.awake: the document's examples.
-/
import Derived.Test.YtalfjcamjdmdjaaDoorPrs
import Derived.Test.YtalfjcamjdmdjaaDoorTextL
import Derived.Test.YtalfjcamjdmdjaaDoorStr
namespace Go.Proofs.YtalfjcamjdmdjaaDoor
open Go.RowKit

theorem textR_inj : ∀ {R R' : List (Nat × Nat)}, textR R = textR R' → R = R'
  | [], [], _ => rfl
  | [], _ :: _, h => by cases h
  | _ :: _, [], h => by cases h
  | r :: R, q :: R', h => by
    injection h with h1 h2
    obtain ⟨e1, e2⟩ := runT_inj h1
    rw [textR_inj h2, Prod.ext e1 e2]
theorem reads_one {l : List UInt8} {R R' : List (Nat × Nat)} (h : Reads l R) (h' : Reads l R') : R = R' :=
  textR_inj ((pieces_of h.1 h.2.2).symm.trans (pieces_of h'.1 h'.2.2))
theorem dec_one {n : Nat} (h : n < 10) : Lib.decDigits n = [UInt8.ofNat (48 + n)] := dec_small h
def exR : List (Nat × Nat) := [(1, 3), (7, 7)]
theorem ex_reads : Reads [49, 45, 51, 44, 55] exR := by
  refine ⟨by decide, ⟨by decide, by decide, by decide, by decide, by decide, by decide, trivial⟩, ?_⟩
  show Lib.join [runT 1 3, runT 7 7] [44] = _
  rw [runT_two (by decide), runT_one, dec_one (by decide), dec_one (by decide), dec_one (by decide)]
  rfl
theorem ex_bad : ∀ R, ¬ Reads [49, 44, 50] R := by
  rintro R ⟨h1, h2, h3⟩
  have e := pieces_of h1 h3
  have hp : Lib.splitK [44] 0 ([49, 44, 50] : List UInt8).length [49, 44, 50] = textR [(1, 1), (2, 2)] := by
    show _ = [runT 1 1, runT 2 2]
    rw [runT_one, runT_one, dec_one (by decide), dec_one (by decide)]
    decide
  have := textR_inj (e.symm.trans hp)
  subst this
  have := h2.2.2.2.1
  dsimp only at this
  omega
theorem ex_pop : popW (runsW exR) = 4 := by decide +kernel
theorem ex_has : hasW (runsW exR) 7 = true ∧ hasW (runsW exR) 4 = false := by decide +kernel
theorem ex_of : ofW [7, 3, 2, 1] = runsW exR := by decide +kernel
/-- Parse at a text that reads. -/
theorem parse_good (s : ByteArray) (hs : s.size ≤ 1099511627) {R : List (Nat × Nat)} (h : Reads s.data.toList R) (w : World) (hr : Ready6 w) : Calls Tryd.prog 17 #[.string s] w fun e w' => ∃ v, e = .returned (.tuple #[.agg #[.pointer v], .int .i64 0]) ∧ SetAt w' v (runsW R) ∧ Below w.heap.size w w' := by
  refine (parse_any w s hs hr).mono ?_
  rintro e w' ⟨hb, ⟨h0, _⟩ | ⟨R', v, h', rfl, hv⟩ | ⟨_, hn, _⟩⟩
  · exfalso
    obtain ⟨h1, _, h3⟩ := h
    obtain ⟨r, R, rfl⟩ := List.exists_cons_of_ne_nil h1
    rw [h0] at h3
    have := join_mem_len (show runT r.1 r.2 ∈ textR (r :: R) by simp [textR])
    rw [h3] at this
    have hn : runT r.1 r.2 ≠ [] := by
      unfold runT
      split
      · exact dec_ne _
      · simp
    cases hq : runT r.1 r.2 with
    | nil => exact hn hq
    | cons a t => rw [hq] at this; simp at this
  · rw [reads_one h h']
    exact ⟨v, rfl, hv, hb⟩
  · exact absurd h (hn R)
/-- .. and at one that does not. -/
theorem parse_bad (s : ByteArray) (hs : s.size ≤ 1099511627) (hne : s.data.toList ≠ []) (h : ∀ R, ¬ Reads s.data.toList R) (w : World) (hr : Ready6 w) : Calls Tryd.prog 17 #[.string s] w fun e w' => e = .returned (.tuple #[.agg #[.pointer none], .int .i64 2]) ∧ Below w.heap.size w w' := by
  refine (parse_any w s hs hr).mono ?_
  rintro e w' ⟨hb, ⟨h0, _⟩ | ⟨R', v, h', _, _⟩ | ⟨_, _, rfl⟩⟩
  · exact absurd h0 hne
  · exact absurd h' (h R')
  · exact ⟨rfl, hb⟩
theorem ex_text : bs (textL (nodesW (runsW exR))) = ⟨#[49, 45, 51, 44, 55]⟩ := by rw [(reads_text ex_reads).1]; rfl
set_option maxRecDepth 100000 in
set_option maxHeartbeats 2000000 in
theorem awake_any (w : World) (hr : Ready6 w) : Calls Tryd.prog 11 #[] w fun e w' => e = .returned (.bool true) ∧ Below w.heap.size w w' := by
  have HR := Lib.hid hr
  clear hr
  go_enter Tryd.func11, Tryd.ntmps11
  go_wp2_with fail
  refine (parse_good ⟨#[49, 45, 51, 44, 55]⟩ (by decide) ex_reads w HR.out).mono ?_
  rintro e w1 ⟨v, rfl, hv, hb1⟩
  have HV := Lib.hid (And.intro hv hb1)
  clear hv hb1
  go_wp2_with fail
  have hr1 : Ready6 (w1.alloc (.cells #[.pointer v] 30)) := HR.out.keep (HV.out.2.alloc HV.out.2.size _) HR.out.room
  refine (parse_bad ⟨#[49, 44, 50]⟩ (by decide) (by decide) ex_bad _ hr1).mono ?_
  rintro e w2 ⟨rfl, hb2⟩
  have hc2 : w2.cell? ⟨w1.heap.size, 0, none⟩ = some (.pointer v) := (hb2.cell (by simp)).trans (by rw [World.cell?_alloc_at (hn := rfl)]; rfl)
  have hlt : w1.heap.size < w2.heap.size := by have := hb2.size; simp at this; omega
  have hb02 : Below w.heap.size w w2 := (HV.out.2.alloc HV.out.2.size _).trans (hb2.mono (by have := HV.out.2.size; simp; omega))
  have hs2 : SetAt w2 v (runsW exR) := ((HV.out.1.below ((Below.refl _ _).alloc (Nat.le_refl _) _))).below hb2
  have HB := Lib.hid (And.intro hb02 hs2)
  clear hr1 hb2 hb02 hs2
  go_wp2_with fail
  obtain ⟨w3, hw3⟩ : ∃ x, x = w2.alloc (.cells #[.pointer none] 30) := ⟨_, rfl⟩
  have hc3 : w3.cell? ⟨w1.heap.size, 0, none⟩ = some (.pointer v) := by rw [hw3]; exact (World.cell?_alloc_lt w2 _ _ hlt).trans hc2
  have hb3 : Below w.heap.size w w3 := by rw [hw3]; exact HB.out.1.alloc HB.out.1.size _
  have hs3 : SetAt w3 v (runsW exR) := by rw [hw3]; exact HB.out.2.below ((Below.refl _ _).alloc (Nat.le_refl _) _)
  have hl3 : w1.heap.size < w3.heap.size := by rw [hw3]; simp; omega
  have H3 := Lib.hid (And.intro hb3 hs3)
  rw [← hw3]
  clear hw3 hc2 hlt HB hb3 hs3
  refine (len_any w3 v _ H3.out.2).mono ?_
  rintro e w4 ⟨rfl, hb4⟩
  rw [ex_pop]
  have hc4 := (hb4.cell (p := ⟨w1.heap.size, 0, none⟩) hl3).trans hc3
  have H4 := Lib.hid (And.intro (H3.out.1.trans (hb4.mono H3.out.1.size)) (And.intro (H3.out.2.below hb4) (Nat.lt_of_lt_of_le hl3 hb4.size)))
  clear hb4 hc3 hl3
  go_wp2_with fail
  refine (has_any w4 v _ 7 H4.out.2.1).mono ?_
  rintro e w5 ⟨rfl, hb5⟩
  rw [show hasB (runsW exR) 7 = true from by decide +kernel]
  have hc5 := (hb5.cell (p := ⟨w1.heap.size, 0, none⟩) H4.out.2.2).trans hc4
  have H5 := Lib.hid (And.intro (H4.out.1.trans (hb5.mono H4.out.1.size)) (And.intro (H4.out.2.1.below hb5) (Nat.lt_of_lt_of_le H4.out.2.2 hb5.size)))
  clear hb5 hc4
  go_wp2_with fail
  refine (has_any w5 v _ 4 H5.out.2.1).mono ?_
  rintro e w6 ⟨rfl, hb6⟩
  rw [show hasB (runsW exR) 4 = false from by decide +kernel]
  have hb6' := H5.out.1.trans (hb6.mono H5.out.1.size)
  have HB6 := Lib.hid hb6'
  clear hb6 hc5 hb6'
  go_wp2_with fail
  refine (of_any _ _ _ [7, 3, 2, 1] (Sl.lit w6 _ _ rfl) (by decide)).mono ?_
  rintro e w7 ⟨p, rfl, hs7, hb7⟩
  rw [ex_of] at hs7
  have HB7 := Lib.hid (And.intro hs7 ((HB6.out.alloc HB6.out.size _).trans (hb7.mono (by have := HB6.out.size; simp; omega))))
  clear hs7 hb7
  go_wp2_with fail
  refine (string_any w7 p _ HB7.out.1 (HR.out.keep HB7.out.2 HR.out.room)).mono ?_
  rintro e w8 ⟨rfl, hb8⟩
  rw [ex_text]
  have HB8 := Lib.hid (HB7.out.2.trans (hb8.mono HB7.out.2.size))
  clear hb8
  go_wp2_with fail
  go_ret
  exact ⟨rfl, HB8.out⟩
end Go.Proofs.YtalfjcamjdmdjaaDoor
