/-
  samaritanlaw02.same: true for a set and its own list of nodes.
-/
import Derived.Test.YtalfjcamjdmdjaaDoorWake
import Derived.Test.YtalfjcamjdmdjaaDoorMin
import Derived.Test.YtalfjcamjdmdjaaDoorRefG
namespace Go.Proofs.YtalfjcamjdmdjaaDoor
open Go.RowKit

def nodesI (V : List Nat) : List Int := (nodesW V).map Int.ofNat
theorem nodesI_len (V : List Nat) : (nodesI V).length = popW V := by unfold nodesI; rw [List.length_map, nodes_len]
theorem own_nodes {w : World} {base : Nat} {e : TypeId} {v : Value} {V : List Nat} (h : OwnV nodeV w base e v (nodesW V)) : OwnI w base e v (nodesI V) := by
  unfold OwnI OwnV at *
  unfold nodesI
  rw [List.length_map, List.map_map]
  exact h
theorem refSame_self (A A' : Option Addr) (c c' : Nat) (xs : List Int) (w : World) (h : Sl w w.heap.size A (xs.map (Value.int .i64))) (h' : Sl w w.heap.size A' (xs.map (Value.int .i64))) (hl : xs.length ≤ 1099511627) :
    Calls Tryd.prog 15 #[.slice A xs.length c, .slice A' xs.length c'] w fun e w' => e = .returned (.bool true) ∧ Below w.heap.size w w' := by
  have := refSame_any A A' c c' xs xs w h h' hl hl
  rwa [decide_eq_true (p := (xs = xs)) rfl] at this
set_option maxRecDepth 100000 in
set_option maxHeartbeats 2000000 in
theorem same_any (w : World) (hr : Ready6 w) (p : Option Addr) (V : List Nat) (h : SetAt w p V) (A : Option Addr) (c : Nat) (hs : Sl w w.heap.size A ((nodesI V).map (Value.int .i64))) :
    Calls Tryd.prog 23 #[.agg #[.pointer p], .slice A (nodesI V).length c] w fun e w' => e = .returned (.bool true) ∧ Below w.heap.size w w' := by
  have hpop : popW V ≤ 4096 := by have := popW_le V; rw [h.1.len] at this; exact this
  have HR := Lib.hid (And.intro hr (And.intro h hs))
  obtain ⟨N, hN⟩ : ∃ N, N = (nodesI V).length := ⟨_, rfl⟩
  have hNp : N = popW V := by rw [hN, nodesI_len]
  have HN := Lib.hid (And.intro hN hNp)
  have hN4 : N ≤ 4096 := by omega
  rw [← hN]
  clear hr h hs hN
  go_enter Tryd.func23, Tryd.ntmps23
  go_wp2_with fail
  obtain ⟨w1, hw1⟩ : ∃ x, x = w.alloc (.cells #[.pointer p] 30) := ⟨_, rfl⟩
  have hb1 : Below w.heap.size w w1 := by rw [hw1]; exact (Below.refl _ _).alloc (Nat.le_refl _) _
  have hc1 : w1.cell? ⟨w.heap.size, 0, none⟩ = some (.pointer p) := by rw [hw1, World.cell?_alloc_at (hn := rfl)]; rfl
  have hl1 : w.heap.size < w1.heap.size := by rw [hw1]; simp
  have hs1 : SetAt w1 p V := HR.out.2.1.below hb1
  have hr1 : Ready6 w1 := HR.out.1.keep hb1 HR.out.1.room
  have H1 := Lib.hid (And.intro hb1 (And.intro hs1 hr1))
  rw [← hw1]
  clear hw1 hb1 hs1 hr1
  refine (min_any w1 p V H1.out.2.1 H1.out.2.2.bru H1.out.2.2.glt).mono ?_
  rintro e w2 ⟨rfl, hb2⟩
  have hc2 := (hb2.cell (p := ⟨w.heap.size, 0, none⟩) hl1).trans hc1
  have H2 := Lib.hid (And.intro (H1.out.1.trans (hb2.mono H1.out.1.size)) (And.intro (H1.out.2.1.below hb2) (And.intro (H1.out.2.2.below hb2) (Nat.lt_of_lt_of_le hl1 hb2.size))))
  clear hb2 hc1 hl1
  have hsl2 : Sl w2 w2.heap.size A ((nodesI V).map (Value.int .i64)) := (HR.out.2.2.below H2.out.1).more H2.out.1.size
  have HS2 := Lib.hid hsl2
  clear hsl2
  cases hL : nodesW V with
  | nil =>
    have hN0 : N = 0 := by rw [hNp, ← nodes_len, hL]; rfl
    subst hN0
    have HP := Lib.hid hNp
    clear hNp
    dsimp only [minV]
    go_wp2_with fail
    refine (len_any w2 p V H2.out.2.1).mono ?_
    rintro e w3 ⟨rfl, hb3⟩
    rw [← HP.out]
    have hc3 := (hb3.cell (p := ⟨w.heap.size, 0, none⟩) H2.out.2.2.2).trans hc2
    have H3 := Lib.hid (And.intro (H2.out.1.trans (hb3.mono H2.out.1.size)) (And.intro (H2.out.2.1.below hb3) (And.intro (H2.out.2.2.1.below hb3) (HS2.out.below hb3))))
    clear hb3 hc2
    go_wp2_with fail
    refine (list_any w3 p V H3.out.2.1 H3.out.2.2.1.bru H3.out.2.2.1.glt).mono ?_
    rintro e w4 ⟨v, rfl, hown, hb4⟩
    have hI := own_nodes hown
    obtain ⟨A', c', rfl, hsl'⟩ := hI.sl
    rw [← HN.out.1]
    have H4 := Lib.hid (And.intro (H3.out.1.trans (hb4.mono H3.out.1.size)) (And.intro hsl' ((HR.out.2.2.below (H3.out.1.trans (hb4.mono H3.out.1.size))).more ((H3.out.1.trans (hb4.mono H3.out.1.size)).size))))
    have hss := refSame_self A' _ c' c (nodesI V) w4 H4.out.2.1 H4.out.2.2 (by rw [← HN.out.1]; omega)
    rw [← HN.out.1] at hss
    have HSS := Lib.hid hss
    clear hown hb4 hc3 hI hsl' hss
    go_wp2_with fail
    refine HSS.out.mono ?_
    rintro e w5 ⟨rfl, hb5⟩
    have H5 := Lib.hid (H4.out.1.trans (hb5.mono H4.out.1.size))
    clear hb5
    go_wp2_with fail
    go_ret
    exact ⟨rfl, H5.out⟩
  | cons x r =>
    have hN0 : (0 : Int) < (N : Int) := by have : (nodesW V).length = r.length + 1 := by rw [hL]; rfl
                                           rw [nodes_len, ← hNp] at this; omega
    have hNz : ¬ (N : Int) = 0 := by omega
    have hN00 : 0 < N := by omega
    have hz : (nodesI V)[0]? = some (x : Int) := by unfold nodesI; rw [hL]; rfl
    obtain ⟨b, o, rfl, hbl, hcz⟩ := HS2.out.int hz
    rw [Nat.add_zero] at hcz
    have HP := Lib.hid hNp
    clear hNp hz
    dsimp only [minV]
    go_wp2_with fail
    refine (len_any w2 p V H2.out.2.1).mono ?_
    rintro e w3 ⟨rfl, hb3⟩
    rw [← HP.out]
    have hc3 := (hb3.cell (p := ⟨w.heap.size, 0, none⟩) H2.out.2.2.2).trans hc2
    have H3 := Lib.hid (And.intro (H2.out.1.trans (hb3.mono H2.out.1.size)) (And.intro (H2.out.2.1.below hb3) (And.intro (H2.out.2.2.1.below hb3) (HS2.out.below hb3))))
    clear hb3 hc2
    go_wp2_with fail
    refine (list_any w3 p V H3.out.2.1 H3.out.2.2.1.bru H3.out.2.2.1.glt).mono ?_
    rintro e w4 ⟨v, rfl, hown, hb4⟩
    have hI := own_nodes hown
    obtain ⟨A', c', rfl, hsl'⟩ := hI.sl
    rw [← HN.out.1]
    have H4 := Lib.hid (And.intro (H3.out.1.trans (hb4.mono H3.out.1.size)) (And.intro hsl' ((HR.out.2.2.below (H3.out.1.trans (hb4.mono H3.out.1.size))).more ((H3.out.1.trans (hb4.mono H3.out.1.size)).size))))
    have hss := refSame_self A' _ c' c (nodesI V) w4 H4.out.2.1 H4.out.2.2 (by rw [← HN.out.1]; omega)
    rw [← HN.out.1] at hss
    have HSS := Lib.hid hss
    clear hown hb4 hc3 hI hsl' hss
    go_wp2_with fail
    refine HSS.out.mono ?_
    rintro e w5 ⟨rfl, hb5⟩
    have H5 := Lib.hid (H4.out.1.trans (hb5.mono H4.out.1.size))
    clear hb5
    go_wp2_with fail
    go_ret
    exact ⟨rfl, H5.out⟩
end Go.Proofs.YtalfjcamjdmdjaaDoor
