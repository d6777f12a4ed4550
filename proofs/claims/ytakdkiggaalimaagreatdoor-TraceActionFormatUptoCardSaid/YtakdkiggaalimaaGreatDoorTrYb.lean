/-
  samaritanref51: guess (printed by gentrxp.py).
  trace.ParseAction (printed by gentrpa.py).
  samaritanref51: Do (printed by gentrxq.py).
  samaritanref51: FewAct.
  trace.FormatAction (printed by gentrfm.py).
  trace.ParseEvent (printed by gentrpa.py).
  samaritanlaw51.wakes: the examples of the document.
  samaritanlaw51.TraceActionFormat: the walk (printed by gentrla.py).
-/
import Derived.Test.YtakdkiggaalimaaGreatDoorTrXm
import Derived.Test.YtakdkiggaalimaaGreatDoorTrXn
import Derived.Test.YtakdkiggaalimaaGreatDoorTrXo
import Derived.Test.YtakdkiggaalimaaGreatDoorTrRs
import Derived.Deep.AppendLies
import Derived.Test.YtakdkiggaalimaaGreatDoorTrXd
import Derived.Test.YtakdkiggaalimaaGreatDoorTrPc
import Derived.OrdersHeld
import Derived.Deep.RegionHeld3
import Derived.Test.YtakdkiggaalimaaGreatDoorTrSp
import Derived.Test.YtakdkiggaalimaaGreatDoorTrLn
import Derived.Deep.WholeRow
import Derived.Test.YtakdkiggaalimaaGreatDoorTrYa
import Derived.Test.YtakdkiggaalimaaGreatDoorTrXa
import Derived.Test.YtakdkiggaalimaaGreatDoorTrFm
namespace Go.Proofs.YtakdkiggaalimaaGreatDoor
section
open Go.RowKit Go.Maps

section
variable {α : Type} {cs : α → List Value} {s : Nat}
/-- 'append(v, x)', x a struct, within a region that draws its order. -/
theorem step_append_rec {P : Program} {ops : Array Oper} {o : Oper} {a : Act} {K : Act → World → Prop} {Q : Exit → Act → World → Prop} {X : Prop} (w : World) (hgd : o.guard = none) (sl x : Operand) (t : TypeId)
    (ho : o.op = .call { callee := .builtin .append, args := #[sl, x], argTypes := #[t, t] })
    (base : Nat) (e : TypeId) (ht : P.underlying t = some (.slice e)) {z0 : Value} {by0 : Nat} (hinfo : (P.info? e).map (fun i => (i.zero, i.size, i.bytes)) = some (some z0, s, by0)) (hz0 : z0.cells.size = s) (h0 : 0 < s) (hby : by0 ≤ 256)
    (hs : ∀ a, (cs a).length = s) (v : Value) (xs : List α) (w0 : World) (z : α) (hone : ∀ u ∈ cs z, u.oneCell' = true) (vs : Array Value) (hvs : vs = (cs z).toArray) (hw : w = w0.alloc (.cells vs e)) (hv : a.eval sl = v) (hown : OwnR cs s w0 base e v xs)
    (nb : Nat) (hx : a.eval x = .slice (some ⟨nb, 0, none⟩) 1 1) (hnb : nb = w0.heap.size) (hlen : xs.length + 1 ≤ 549755813888) (hbase : base ≤ w0.heap.size)
    (h : ∀ g cap w', OwnR cs s w' base e (.slice (some ⟨g, 0, none⟩) (xs.length + 1) cap) (xs ++ [z]) → w0.grownBy w' v.ownBlock → (v.ownBlock = some g ∨ w0.heap.size ≤ g) → K (a.put o.dst (.slice (some ⟨g, 0, none⟩) (xs.length + 1) cap)) w') :
    if Region.wanted o (yielded ops a.tmps) = true then Oper.wp P o a w K Q else X := by
  obtain ⟨i0, hi, hz1, hz2, hz3⟩ := info_parts hinfo
  subst hw hvs hnb
  have hcell : ∀ j u, (cs z)[j]? = some u → (w0.alloc (.cells (cs z).toArray e)).cell? ((⟨w0.heap.size, 0, none⟩ : Addr).add j) = some u := by
    intro j u hj
    rw [add_none, Nat.zero_add, World.cell?_alloc_at (hn := rfl)]
    simpa using hj
  refine step_append_lies _ hgd sl x t ho base e i0 z0 s by0 ht hi hz1 hz2 hz3 hz0 h0 v xs.length _ hv (World.ownsRow.alloc hown _) ⟨w0.heap.size, 0, none⟩ 1 1 (cs z) hx (by rw [hs, Nat.one_mul]) hcell hone (by decide) (by unfold maxLen; omega) ?_ (by simp; omega) _ rfl ?_
  · have := Nat.mul_le_mul hlen hby
    omega
  intro g cap w' h1 h2 h3 _
  refine h g cap w' ?_ ((World.grownBy_alloc w0 _ _).trans h2) ?_
  · unfold OwnR
    rw [List.length_append, List.length_singleton, List.flatMap_append]
    simpa using h1
  · rcases h3 with h3 | h3
    · exact .inl h3
    · right
      rw [h3]
      simp
end

theorem Blk.grown {Y Z : World} {b : Nat} {T : TypeId} {cs : List Value} (h : Blk Y b T cs) {base : Nat} {e : TypeId} {s n : Nat} {v : Value} {xs : List Value} (hr : Y.ownsRow base e s v n xs) (hT : T ≠ e) (hg : Y.grownBy Z v.ownBlock) : Blk Z b T cs := by
  refine (hg.block b h.lt (fun q => ?_)).trans h
  rcases hr.2 with ⟨e1, _⟩ | ⟨k, cap, cur, e1, _, hh, _⟩
  · rw [e1] at q
    cases q
  · rw [e1] at q
    have q1 : b = k := by simpa [Value.ownBlock] using q
    have h2 : Y.heap[b]? = _ := h
    rw [q1, hh] at h2
    injection h2 with h2
    injection h2 with _ h2 _
    exact hT h2.symm
theorem SrcO.next {Y Z : World} {base : Nat} {v : Value} {l : List SrcM} (h : SrcO Y base v l) (hb : Below Y.heap.size Y Z) : SrcO Z base v l := ⟨own_next h.row hb, fun s hs => own_next (h.nodes s hs) hb⟩
theorem srcsR_step {ws : List Wd} {N q i : Nat} (hq : q < N) (hi : i < ws.length) : srcsR ws (N - q) i = ⟨atR ws i, spanR ws (i + 1)⟩ :: srcsR ws (N - (q + 1)) (i + 2 + (spanR ws (i + 1)).length) := by
  have e : N - q = (N - (q + 1)) + 1 := by omega
  rw [e, srcsR, if_pos hi]
theorem srcsR_stop {ws : List Wd} {N q i : Nat} (h : N ≤ q ∨ ws.length ≤ i) : srcsR ws (N - q) i = [] := by
  rcases h with h | h
  · rw [show N - q = 0 by omega]
    rfl
  · cases hN : N - q with
    | zero => rfl
    | succ k =>
      rw [srcsR, if_neg (by omega)]
/-- where the loop over the sources stands. -/
structure GSt (ws : List Wd) (w : World) (v1 : Int) (N q i : Nat) (us : List SrcM) (sA : Option Addr) (sc : Nat) (X : World) : Prop where
  ab : Blk X (w.heap.size + 1) 33 [.int .i64 1, .int .i64 0, .int .i64 0, .int .i64 0, .int .i64 0, .int .i64 v1, .slice sA us.length sc, .slice none 0 0]
  rb : Blk X w.heap.size 33 [.int .i64 0, .int .i64 0, .int .i64 0, .int .i64 0, .int .i64 0, .int .i64 0, .slice none 0 0, .slice none 0 0]
  own : SrcO X w.heap.size (.slice sA us.length sc) us
  con : us.map SrcM.con ++ srcsR ws (N - q) i = srcsR ws N 3
  len : us.length ≤ i
  below : Below w.heap.size w X
set_option maxRecDepth 100000 in
set_option maxHeartbeats 8000000 in
theorem guess51_1 (ws : List Wd) (A : Option Addr) (c : Nat) (w : World) (hat : WdsAt w w.heap.size A ws) (hl : ∀ x ∈ ws, x.length ≤ 1000000000) (hn : ws.length ≤ 1000000) (x : Wd) (r : List Wd) (hws : ws = x :: r) (hk : kindR actN x 19 = 1) : Calls Tryz.prog 34 #[.slice A ws.length c] w (RetG ws w) := by
  obtain ⟨b, o, rfl, hb, hc⟩ := hat.at (i := 0) (x := x) (by rw [hws]; rfl)
  have hc : w.cell? ⟨b, o, none⟩ = some (.string (bs x)) := hc
  have HAT := Lib.hid (fun (j : Nat) (X : World) (hb : Below w.heap.size w X) => at51_any ws (some ⟨b, o, none⟩) c j X w.heap.size (Sl.below hat hb) hl (by omega))
  have HSP := Lib.hid (fun (j : Nat) (X : World) (hb : Below w.heap.size w X) (hj : j ≤ 1000000000) => span51_any ws (some ⟨b, o, none⟩) c j X (Sl.more (Sl.below hat hb) hb.size) hl hn hj)
  have HAW := Lib.hid (fun (k : Int) (X : World) => actWord_any k X)
  have HKD := Lib.hid (And.intro hk (And.intro (guess_kind hws hk) hn))
  have HCW := Lib.hid (show ∀ X : World, Below w.heap.size w X → X.cell? ⟨b, o, none⟩ = some (.string (bs x)) from fun X hX => (hX.cell (p := ⟨b, o, none⟩) hb).trans hc)
  obtain ⟨n, hnn⟩ : ∃ n, n = ws.length := ⟨_, rfl⟩
  have hn1 : n ≤ 1000000 := by omega
  have hn0 : 0 < n := by rw [hnn, hws]; simp
  have hn0' : (0 : Int) < (n : Int) := by omega
  have HNN := Lib.hid hnn
  rw [← hnn] at HAT HSP ⊢
  obtain ⟨X0, hX0⟩ : ∃ X0, X0 = ((w.alloc (.cells #[.int .i64 0, .int .i64 0, .int .i64 0, .int .i64 0, .int .i64 0, .int .i64 0, .slice none 0 0, .slice none 0 0] 33)).alloc (.cells #[.int .i64 0, .int .i64 0, .int .i64 0, .int .i64 0, .int .i64 0, .int .i64 0, .slice none 0 0, .slice none 0 0] 33)) := ⟨_, rfl⟩
  have HX0 : Hid (Blk X0 w.heap.size 33 [.int .i64 0, .int .i64 0, .int .i64 0, .int .i64 0, .int .i64 0, .int .i64 0, .slice none 0 0, .slice none 0 0] ∧ Blk X0 (w.heap.size + 1) 33 [.int .i64 0, .int .i64 0, .int .i64 0, .int .i64 0, .int .i64 0, .int .i64 0, .slice none 0 0, .slice none 0 0] ∧ Below w.heap.size w X0) := Lib.hid (by
    rw [hX0]
    obtain ⟨h1, h2⟩ := two_blk w [.int .i64 0, .int .i64 0, .int .i64 0, .int .i64 0, .int .i64 0, .int .i64 0, .slice none 0 0, .slice none 0 0] [.int .i64 0, .int .i64 0, .int .i64 0, .int .i64 0, .int .i64 0, .int .i64 0, .slice none 0 0, .slice none 0 0] 33 33
    exact ⟨h1, h2, ((Below.refl _ _).alloc (Nat.le_refl _) _).alloc (by simp) _⟩)
  clear hat hl hn hws hk hb hc hnn
  go_enter Tryz.func34, Tryz.ntmps34
  go_wp2_with fail
  rw [← hX0]
  clear hX0
  go_loopw [4] (fun jv X => ∃ m : Nat, m ≤ 19 ∧ jv = .int .i64 ((m : Int) + 1) ∧ Blk X (w.heap.size + 1) 33 (.int .i64 (kindR actN x m) :: [.int .i64 0, .int .i64 0, .int .i64 0, .int .i64 0, .int .i64 0, .slice none 0 0, .slice none 0 0]) ∧ Blk X w.heap.size 33 [.int .i64 0, .int .i64 0, .int .i64 0, .int .i64 0, .int .i64 0, .int .i64 0, .slice none 0 0, .slice none 0 0] ∧ Below w.heap.size w X) (fun jv _ => 20 - (intOf jv).toNat)
  case atStart => exact ⟨0, Nat.zero_le _, rfl, HX0.out.2.1, HX0.out.1, HX0.out.2.2⟩
  case round =>
    obtain ⟨m, hm, rfl, hba, hbr, hbl⟩ := hrel
    have HW := Lib.hid (And.intro hba (And.intro hbr hbl))
    clear hba hbr hbl
    by_cases hlt : m < 19
    · have hlt' : (m : Int) + 1 ≤ 19 := by omega
      have HHD := Lib.hid (show Below wr.heap.size wr wr.drew from below_dr (Below.refl _ _) 1)
      obtain ⟨s1, hs1⟩ : ∃ s, s = bs (actN ((m : Int) + 1)) := ⟨_, rfl⟩
      obtain ⟨s2, hs2⟩ : ∃ s, s = bs x := ⟨_, rfl⟩
      have HC0 := Lib.hid (show ∀ X : World, Below wr.heap.size wr X → X.cell? ⟨b, o, none⟩ = some (.string s2) from fun X hX => by rw [hs2]; exact HCW.out X (HW.out.2.2.trans (hX.mono HW.out.2.2.size)))
      have HEQ := Lib.hid (show s1.toList = s2.toList ↔ actN ((m : Int) + 1) = x by rw [hs1, hs2]; exact bs_lists)
      have HAW1 := Lib.hid (fun X : World => HAW.out ((m : Int) + 1) X)
      rw [← hs1] at HAW1
      clear hs2 hs1
      go_wp2_with fail
      by_cases he : s1.toList = s2.toList
      · have HE := Lib.hid (HEQ.out.1 he)
        refine wp_region_held_drew (S := fun W' => Below wr.heap.size wr W') (by kernel_rfl) HHD.out (fun hHeld => ?_)
        refine wpAnyH_take (i := 0) (v := .slice (some ⟨b, o, none⟩) n c) rfl (by kernel_rfl) (by kernel_rfl) (by kernel_rfl) (fun _ _ _ h => h) (Or.inl ⟨by rfl, ?_⟩) (by assumption) ?_
        · intro w' hSw
          go_simp
        show wpAnyH _ _ _ _ _ _ _ (Act.put _ (some 13) _) _
        simp only [Act.put, List.setIfInBounds_toArray, List.set_cons_zero, List.set_cons_succ]
        refine wpAnyH_take (i := 1) (v := .int .i64 n) rfl (by kernel_rfl) (by kernel_rfl) (by kernel_rfl) (fun _ _ _ h => h) (Or.inl ⟨by rfl, ?_⟩) (by assumption) ?_
        · intro w' hSw
          go_simp
        show wpAnyH _ _ _ _ _ _ _ (Act.put _ (some 14) _) _
        simp only [Act.put, List.setIfInBounds_toArray, List.set_cons_zero, List.set_cons_succ]
        refine wpAnyH_take (i := 2) (v := .bool true) rfl (by kernel_rfl) (by kernel_rfl) (by kernel_rfl) (fun _ _ _ h => h) (Or.inl ⟨by rfl, ?_⟩) (by assumption) ?_
        · intro w' hSw
          go_simp
        show wpAnyH _ _ _ _ _ _ _ (Act.put _ (some 15) _) _
        simp only [Act.put, List.setIfInBounds_toArray, List.set_cons_zero, List.set_cons_succ]
        refine wpAnyH_take (i := 3) (v := .bool true) rfl (by kernel_rfl) (by kernel_rfl) (by kernel_rfl) (fun _ _ _ h => h) (Or.inl ⟨by rfl, ?_⟩) (by assumption) ?_
        · intro w' hSw
          go_simp
        show wpAnyH _ _ _ _ _ _ _ (Act.put _ (some 16) _) _
        simp only [Act.put, List.setIfInBounds_toArray, List.set_cons_zero, List.set_cons_succ]
        refine wpAnyH_take (i := 4) (v := .int .i64 ((m : Int) + 1)) rfl (by kernel_rfl) (by kernel_rfl) (by kernel_rfl) (fun _ _ _ h => h) (Or.inl ⟨by rfl, ?_⟩) (by assumption) ?_
        · intro w' hSw
          go_simp
        show wpAnyH _ _ _ _ _ _ _ (Act.put _ (some 17) _) _
        simp only [Act.put, List.setIfInBounds_toArray, List.set_cons_zero, List.set_cons_succ]
        refine wpAnyH_take (i := 6) (v := .slice (some ⟨b, o, none⟩) n c) rfl (by kernel_rfl) (by kernel_rfl) (by kernel_rfl) (fun _ _ _ h => h) (Or.inl ⟨by rfl, ?_⟩) (by assumption) ?_
        · intro w' hSw
          go_simp
        show wpAnyH _ _ _ _ _ _ _ (Act.put _ (some 19) _) _
        simp only [Act.put, List.setIfInBounds_toArray, List.set_cons_zero, List.set_cons_succ]
        refine wpAnyH_take (i := 7) (v := .pointer (some ⟨b, o, none⟩)) rfl (by kernel_rfl) (by kernel_rfl) (by kernel_rfl) (fun _ _ _ h => h) (Or.inl ⟨by rfl, ?_⟩) (by assumption) ?_
        · intro w' hSw
          go_simp
        show wpAnyH _ _ _ _ _ _ _ (Act.put _ (some 20) _) _
        simp only [Act.put, List.setIfInBounds_toArray, List.set_cons_zero, List.set_cons_succ]
        refine wpAnyH_take (i := 8) (v := .string s2) rfl (by kernel_rfl) (by kernel_rfl) (by kernel_rfl) (fun _ _ _ h => h) (Or.inl ⟨by rfl, ?_⟩) (by assumption) ?_
        · intro w' hSw
          have hc := HC0.out w' hSw
          go_simp
        show wpAnyH _ _ _ _ _ _ _ (Act.put _ (some 21) _) _
        simp only [Act.put, List.setIfInBounds_toArray, List.set_cons_zero, List.set_cons_succ]
        refine wpAnyH_ready (rs := [5]) (by kernel_rfl) (by simp) ?_
        refine AllReadyH.cons rfl (fun K hK => ?_) AllReadyH.nil
        go_simp
        refine (HAW1.out _).mono ?_
        rintro e Y1 ⟨rfl, hy1⟩
        go_simp
        refine hK.out _ _ (HHD.out.trans (hy1.mono HHD.out.size)) (fun hHeld => ?_)
        clear hK K
        have HY1 := Lib.hid hHeld
        clear hy1
        refine wpAnyH_take (i := 9) (v := .bool true) rfl (by kernel_rfl) (by kernel_rfl) (by kernel_rfl) (fun _ _ _ h => h) (Or.inl ⟨by rfl, ?_⟩) (by assumption) ?_
        · intro w' hSw
          go_simp
        show wpAnyH _ _ _ _ _ _ _ (Act.put _ (some 22) _) _
        simp only [Act.put, List.setIfInBounds_toArray, List.set_cons_zero, List.set_cons_succ]
        refine wpAnyH_take (i := 10) (v := .bool true) rfl (by kernel_rfl) (by kernel_rfl) (by kernel_rfl) (fun _ _ _ h => h) (Or.inl ⟨by rfl, ?_⟩) (by assumption) ?_
        · intro w' hSw
          go_simp
        show wpAnyH _ _ _ _ _ _ _ (Act.put _ (some 23) _) _
        simp only [Act.put, List.setIfInBounds_toArray, List.set_cons_zero, List.set_cons_succ]
        refine wpAnyH_done (by kernel_rfl) ?_ _
        have HBA := Lib.hid (HW.out.1.next HY1.out)
        have HBR := Lib.hid (HW.out.2.1.next HY1.out)
        have HBL := Lib.hid (HW.out.2.2.trans (HY1.out.mono HW.out.2.2.size))
        have hz := HBA.out.free 0
        have hy := HBA.out.cell (j := 0) rfl
        have hl3 := HBA.out.lt
        have HSET := Lib.hid (And.intro (HBA.out.set 0 (.int .i64 ((m : Int) + 1))) (And.intro (HBR.out.other (g := w.heap.size + 1) (by omega) 0 (.int .i64 ((m : Int) + 1))) (HBL.out.setCell (p := ⟨w.heap.size + 1, 0, none⟩) (by show w.heap.size ≤ w.heap.size + 1; omega) (.int .i64 ((m : Int) + 1)))))
        clear he
        go_wp2_with fail
        go_roundw
        case rel => exact ⟨m + 1, by omega, by go_num, by rw [kindR_yes HE.out]; exact HSET.out.1, HSET.out.2.1, HSET.out.2.2⟩
        case measure => simp [intOf]; omega
      · have HE := Lib.hid (show ¬ actN ((m : Int) + 1) = x from fun q => he (HEQ.out.2 q))
        refine wp_region_held_drew (S := fun W' => Below wr.heap.size wr W') (by kernel_rfl) HHD.out (fun hHeld => ?_)
        refine wpAnyH_take (i := 0) (v := .slice (some ⟨b, o, none⟩) n c) rfl (by kernel_rfl) (by kernel_rfl) (by kernel_rfl) (fun _ _ _ h => h) (Or.inl ⟨by rfl, ?_⟩) (by assumption) ?_
        · intro w' hSw
          go_simp
        show wpAnyH _ _ _ _ _ _ _ (Act.put _ (some 13) _) _
        simp only [Act.put, List.setIfInBounds_toArray, List.set_cons_zero, List.set_cons_succ]
        refine wpAnyH_take (i := 1) (v := .int .i64 n) rfl (by kernel_rfl) (by kernel_rfl) (by kernel_rfl) (fun _ _ _ h => h) (Or.inl ⟨by rfl, ?_⟩) (by assumption) ?_
        · intro w' hSw
          go_simp
        show wpAnyH _ _ _ _ _ _ _ (Act.put _ (some 14) _) _
        simp only [Act.put, List.setIfInBounds_toArray, List.set_cons_zero, List.set_cons_succ]
        refine wpAnyH_take (i := 2) (v := .bool true) rfl (by kernel_rfl) (by kernel_rfl) (by kernel_rfl) (fun _ _ _ h => h) (Or.inl ⟨by rfl, ?_⟩) (by assumption) ?_
        · intro w' hSw
          go_simp
        show wpAnyH _ _ _ _ _ _ _ (Act.put _ (some 15) _) _
        simp only [Act.put, List.setIfInBounds_toArray, List.set_cons_zero, List.set_cons_succ]
        refine wpAnyH_take (i := 3) (v := .bool true) rfl (by kernel_rfl) (by kernel_rfl) (by kernel_rfl) (fun _ _ _ h => h) (Or.inl ⟨by rfl, ?_⟩) (by assumption) ?_
        · intro w' hSw
          go_simp
        show wpAnyH _ _ _ _ _ _ _ (Act.put _ (some 16) _) _
        simp only [Act.put, List.setIfInBounds_toArray, List.set_cons_zero, List.set_cons_succ]
        refine wpAnyH_take (i := 4) (v := .int .i64 ((m : Int) + 1)) rfl (by kernel_rfl) (by kernel_rfl) (by kernel_rfl) (fun _ _ _ h => h) (Or.inl ⟨by rfl, ?_⟩) (by assumption) ?_
        · intro w' hSw
          go_simp
        show wpAnyH _ _ _ _ _ _ _ (Act.put _ (some 17) _) _
        simp only [Act.put, List.setIfInBounds_toArray, List.set_cons_zero, List.set_cons_succ]
        refine wpAnyH_take (i := 6) (v := .slice (some ⟨b, o, none⟩) n c) rfl (by kernel_rfl) (by kernel_rfl) (by kernel_rfl) (fun _ _ _ h => h) (Or.inl ⟨by rfl, ?_⟩) (by assumption) ?_
        · intro w' hSw
          go_simp
        show wpAnyH _ _ _ _ _ _ _ (Act.put _ (some 19) _) _
        simp only [Act.put, List.setIfInBounds_toArray, List.set_cons_zero, List.set_cons_succ]
        refine wpAnyH_take (i := 7) (v := .pointer (some ⟨b, o, none⟩)) rfl (by kernel_rfl) (by kernel_rfl) (by kernel_rfl) (fun _ _ _ h => h) (Or.inl ⟨by rfl, ?_⟩) (by assumption) ?_
        · intro w' hSw
          go_simp
        show wpAnyH _ _ _ _ _ _ _ (Act.put _ (some 20) _) _
        simp only [Act.put, List.setIfInBounds_toArray, List.set_cons_zero, List.set_cons_succ]
        refine wpAnyH_take (i := 8) (v := .string s2) rfl (by kernel_rfl) (by kernel_rfl) (by kernel_rfl) (fun _ _ _ h => h) (Or.inl ⟨by rfl, ?_⟩) (by assumption) ?_
        · intro w' hSw
          have hc := HC0.out w' hSw
          go_simp
        show wpAnyH _ _ _ _ _ _ _ (Act.put _ (some 21) _) _
        simp only [Act.put, List.setIfInBounds_toArray, List.set_cons_zero, List.set_cons_succ]
        refine wpAnyH_ready (rs := [5]) (by kernel_rfl) (by simp) ?_
        refine AllReadyH.cons rfl (fun K hK => ?_) AllReadyH.nil
        go_simp
        refine (HAW1.out _).mono ?_
        rintro e Y1 ⟨rfl, hy1⟩
        go_simp
        refine hK.out _ _ (HHD.out.trans (hy1.mono HHD.out.size)) (fun hHeld => ?_)
        clear hK K
        have HY1 := Lib.hid hHeld
        clear hy1
        refine wpAnyH_take (i := 9) (v := .bool false) rfl (by kernel_rfl) (by kernel_rfl) (by kernel_rfl) (fun _ _ _ h => h) (Or.inl ⟨by rfl, ?_⟩) (by assumption) ?_
        · intro w' hSw
          go_simp
        show wpAnyH _ _ _ _ _ _ _ (Act.put _ (some 22) _) _
        simp only [Act.put, List.setIfInBounds_toArray, List.set_cons_zero, List.set_cons_succ]
        refine wpAnyH_take (i := 10) (v := .bool false) rfl (by kernel_rfl) (by kernel_rfl) (by kernel_rfl) (fun _ _ _ h => h) (Or.inl ⟨by rfl, ?_⟩) (by assumption) ?_
        · intro w' hSw
          go_simp
        show wpAnyH _ _ _ _ _ _ _ (Act.put _ (some 23) _) _
        simp only [Act.put, List.setIfInBounds_toArray, List.set_cons_zero, List.set_cons_succ]
        refine wpAnyH_done (by kernel_rfl) ?_ _
        have HBA := Lib.hid (HW.out.1.next HY1.out)
        have HBR := Lib.hid (HW.out.2.1.next HY1.out)
        have HBL := Lib.hid (HW.out.2.2.trans (HY1.out.mono HW.out.2.2.size))
        clear he
        go_wp2_with fail
        go_roundw
        case rel => exact ⟨m + 1, by omega, by go_num, by rw [kindR_no HE.out]; exact HBA.out, HBR.out, HBL.out⟩
        case measure => simp [intOf]; omega
    · obtain rfl : m = 19 := by omega
      rw [HKD.out.1] at HW
      have HA1 := Lib.hid (HAT.out 1 wr HW.out.2.2)
      obtain ⟨v1, hv1⟩ : ∃ v, v = atR ws 1 := ⟨_, rfl⟩
      have HV1 := Lib.hid hv1
      rw [← hv1] at HA1
      clear hv1
      go_wp2_with fail
      refine HA1.out.mono ?_
      rintro e Y ⟨rfl, hY⟩
      rw [hY]
      clear hY Y
      have hz0 := HW.out.1.cell (j := 0) rfl
      clear HA1
      have hy5 := HW.out.1.cell (j := 5) rfl
      have hf5 := HW.out.1.free 5
      have hl3 := HW.out.1.lt
      obtain ⟨U, hU⟩ : ∃ U, U = wr.setCell ⟨w.heap.size + 1, 5, none⟩ (.int .i64 v1) := ⟨_, rfl⟩
      have HU : Hid (GSt ws w v1 (atR ws 2).toNat 0 3 [] none 0 U) := Lib.hid (by
        rw [hU]
        exact ⟨HW.out.1.set 5 (.int .i64 v1), HW.out.2.1.other (g := w.heap.size + 1) (by omega) 5 (.int .i64 v1), SrcO.nil _ _, rfl, by simp, HW.out.2.2.setCell (p := ⟨w.heap.size + 1, 5, none⟩) (by show w.heap.size ≤ w.heap.size + 1; omega) (.int .i64 v1)⟩)
      obtain ⟨v2, hv2⟩ : ∃ v, v = atR ws 2 := ⟨_, rfl⟩
      have HV2 := Lib.hid hv2
      rw [← hv2] at HU
      clear hv2
      go_wp2_with fail
      rw [← hU]
      clear hU hy5 hf5 hl3 hz0
      go_loopw [6, 7, 8] (fun iv qv _ X => ∃ (q i : Nat) (us : List SrcM) (sA : Option Addr) (sc : Nat), iv = .int .i64 i ∧ qv = .int .i64 q ∧ q ≤ v2.toNat ∧ i ≤ n + 3 ∧ GSt ws w v1 v2.toNat q i us sA sc X) (fun _ qv _ _ => v2.toNat - (intOf qv).toNat)
      case atStart => exact ⟨0, 3, [], none, 0, rfl, rfl, Nat.zero_le _, by omega, HU.out⟩
      case round =>
        rename_i X _
        obtain ⟨q, i, us, sA, sc, rfl, rfl, hq, hi, hst⟩ := hrel
        have HST := Lib.hid hst
        clear hst
        have HA2 := Lib.hid (HAT.out 2 _ HST.out.below)
        rw [← HV2.out] at HA2
        have hqb : q ≤ 9223372036854775807 := by have := (atR_64 ws 2).2; rw [← HV2.out] at this; omega
        by_cases h1 : (q : Int) < v2
        · have d1 : decide ((q : Int) < v2) = true := decide_eq_true h1
          have hqn : q < v2.toNat := by omega
          by_cases h2 : i < n
          · have d2 : decide ((i : Int) < (n : Int)) = true := decide_eq_true (by omega)
            have w1 : IntKind.i64.wrap ((i : Int) + 1) = (i : Int) + 1 := IntWalk.i64_in _ (by omega)
            have HS := Lib.hid (HSP.out (i + 1) _ HST.out.below (by omega))
            have HIA := Lib.hid (fun (Y : World) (hY : Below w.heap.size w Y) => HAT.out i Y hY)
            have HSTEP := Lib.hid (srcsR_step (ws := ws) hqn (by rw [← HNN.out]; exact h2))
            obtain ⟨vi, hvi⟩ : ∃ v, v = atR ws i := ⟨_, rfl⟩
            obtain ⟨L, hL⟩ : ∃ L, L = spanR ws (i + 1) := ⟨_, rfl⟩
            have hLl : i + 2 + L.length ≤ n + 1 := by
              have := spanR_len ws (i + 1)
              rw [hL]
              have := HNN.out
              omega
            rw [← hL] at HS HSTEP
            rw [← hvi] at HIA HSTEP
            rw [show ((i + 1 : Nat) : Int) = (i : Int) + 1 by omega] at HS
            have w2 : IntKind.i64.wrap ((i : Int) + 2) = (i : Int) + 2 := IntWalk.i64_in _ (by omega)
            have w3 : IntKind.i64.wrap ((i : Int) + 2 + (L.length : Int)) = (i : Int) + 2 + (L.length : Int) := IntWalk.i64_in _ (by omega)
            have w4 : IntKind.i64.wrap ((q : Int) + 1) = (q : Int) + 1 := IntWalk.i64_in _ (by have := (atR_64 ws 2).2; rw [← HV2.out] at this; omega)
            clear hL hvi
            go_wp2_with fail
            refine HA2.out.mono ?_
            rintro e Y ⟨rfl, hY⟩
            rw [hY]
            clear hY Y HA2
            go_wp2_with fail
            refine HS.out.mono ?_
            rintro e Y ⟨B, d, rfl, hown, hby⟩
            obtain ⟨V, hV⟩ : ∃ V, V = Y.drew := ⟨_, rfl⟩
            have hbv : Below wr.heap.size wr V := by rw [hV]; exact below_dr hby 1
            have HV := Lib.hid (And.intro (HST.out.ab.next hbv) (And.intro (HST.out.rb.next hbv) (And.intro (HST.out.own.next hbv) (And.intro (HST.out.below.trans (hbv.mono HST.out.below.size)) (show OwnI V w.heap.size 3 (.slice B L.length d) L by rw [hV]; exact OwnV.base_le hown HST.out.below.size)))))
            have hc6 := HV.out.1.cell (j := 6) rfl
            have HIV := Lib.hid (HIA.out V HV.out.2.2.2.1)
            clear hown hby hbv HS HIA
            go_wp2_with fail
            refine wp_region_held_drew (S := fun _ => True) (by kernel_rfl) trivial (fun hHeld => ?_)
            rw [← hV]
            clear hV
            refine wpAnyH_take (i := 0) (v := .pointer (some ⟨w.heap.size + 1, 6, none⟩)) rfl (by kernel_rfl) (by kernel_rfl) (by kernel_rfl) (fun _ _ _ h => h) (Or.inl ⟨by rfl, ?_⟩) (by assumption) ?_
            · intro w' hSw
              go_simp
            show wpAnyH _ _ _ _ _ _ _ (Act.put _ (some 50) _) _
            simp only [Act.put, List.setIfInBounds_toArray, List.set_cons_zero, List.set_cons_succ]
            refine wpAnyH_take (i := 2) (v := .slice (some ⟨b, o, none⟩) n c) rfl (by kernel_rfl) (by kernel_rfl) (by kernel_rfl) (fun _ _ _ h => h) (Or.inl ⟨by rfl, ?_⟩) (by assumption) ?_
            · intro w' hSw
              go_simp
            show wpAnyH _ _ _ _ _ _ _ (Act.put _ (some 52) _) _
            simp only [Act.put, List.setIfInBounds_toArray, List.set_cons_zero, List.set_cons_succ]
            refine wpAnyH_take (i := 3) (v := .int .i64 i) rfl (by kernel_rfl) (by kernel_rfl) (by kernel_rfl) (fun _ _ _ h => h) (Or.inl ⟨by rfl, ?_⟩) (by assumption) ?_
            · intro w' hSw
              go_simp
            show wpAnyH _ _ _ _ _ _ _ (Act.put _ (some 53) _) _
            simp only [Act.put, List.setIfInBounds_toArray, List.set_cons_zero, List.set_cons_succ]
            refine wpAnyH_take (i := 5) (v := .slice B L.length d) rfl (by kernel_rfl) (by kernel_rfl) (by kernel_rfl) (fun _ _ _ h => h) (Or.inl ⟨by rfl, ?_⟩) (by assumption) ?_
            · intro w' hSw
              go_simp
            show wpAnyH _ _ _ _ _ _ _ (Act.put _ (some 55) _) _
            simp only [Act.put, List.setIfInBounds_toArray, List.set_cons_zero, List.set_cons_succ]
            refine wpAnyH_ready (rs := [1, 4]) (by kernel_rfl) (by simp) ?_
            refine AllReadyH.cons rfl (fun K hK => ?_) (AllReadyH.cons rfl (fun K hK => ?_) AllReadyH.nil)
            · go_simp
              refine hK.out _ _ trivial (fun hHeld => ?_)
              clear hK K
              refine wpAnyH_ready (rs := [4]) (by kernel_rfl) (by simp) ?_
              refine AllReadyH.cons rfl (fun K hK => ?_) AllReadyH.nil
              go_simp
              refine HIV.out.mono ?_
              rintro e Y1 ⟨rfl, hY1⟩
              rw [hY1]
              clear hY1 Y1
              go_simp
              refine hK.out _ _ trivial (fun hHeld => ?_)
              clear hK K
              refine wpAnyH_take (i := 6) (v := .agg #[.int .i64 vi, .slice B L.length d]) rfl (by kernel_rfl) (by kernel_rfl) (by kernel_rfl) (fun _ _ _ h => h) (Or.inl ⟨by rfl, ?_⟩) (by assumption) ?_
              · intro w' hSw
                go_simp
              show wpAnyH _ _ _ _ _ _ _ (Act.put _ (some 56) _) _
              simp only [Act.put, List.setIfInBounds_toArray, List.set_cons_zero, List.set_cons_succ]
              refine wpAnyH_ready (rs := [7]) (by kernel_rfl) (by simp) ?_
              refine AllReadyH.cons rfl (fun K hK => ?_) AllReadyH.nil
              go_simp
              refine hK.out _ _ trivial (fun hHeld => ?_)
              clear hK K
              refine wpAnyH_ready (rs := [8]) (by kernel_rfl) (by simp) ?_
              refine AllReadyH.cons rfl (fun K hK => ?_) AllReadyH.nil
              refine step_append_rec (cs := srcCs) (s := 2) _ (by rfl) (.tmp 51) (.tmp 57) 30 (by rfl) w.heap.size 80 Tryz.underlying30 src_info rfl (by decide) (by decide) srcCs_len (.slice sA us.length sc) us V (⟨vi, B, d, L⟩ : SrcM) (srcCs_one _) #[.int .i64 vi, .slice B L.length d] (by rfl) (by rfl) (by rfl) HV.out.2.2.1.row V.heap.size (by rfl) (by rfl) (by have := HST.out.len; omega) HV.out.2.2.2.1.size ?_
              intro g cap w9 ho9 hg9 _
              have HV9 := Lib.hid (And.intro (HV.out.1.grown HV.out.2.2.1.row (by decide) hg9) (And.intro (HV.out.2.1.grown HV.out.2.2.1.row (by decide) hg9) (And.intro (HV.out.2.2.1.push ho9 hg9 HV.out.2.2.2.2) (HV.out.2.2.2.1.grown hg9 HV.out.2.2.2.1.size (OwnR.ge_base HV.out.2.2.1.row)))))
              clear ho9 hg9
              refine hK.out _ _ trivial (fun hHeld => ?_)
              clear hK K
              refine wpAnyH_take (i := 9) (v := .pointer (some ⟨w.heap.size + 1, 6, none⟩)) rfl (by kernel_rfl) (by kernel_rfl) (by kernel_rfl) (fun _ _ _ h => h) (Or.inl ⟨by rfl, ?_⟩) (by assumption) ?_
              · intro w' hSw
                go_simp
              show wpAnyH _ _ _ _ _ _ _ (Act.put _ (some 59) _) _
              simp only [Act.put, List.setIfInBounds_toArray]
              have hy6 := HV9.out.1.cell (j := 6) rfl
              have hf6 := HV9.out.1.free 6
              have hl6 := HV9.out.1.lt
              refine wpAnyH_ready (rs := [10]) (by kernel_rfl) (by simp) ?_
              refine AllReadyH.cons rfl (fun K hK => ?_) AllReadyH.nil
              go_simp
              refine hK.out _ _ trivial (fun hHeld => ?_)
              clear hK K
              refine wpAnyH_done (by kernel_rfl) ?_ _
              have HFIN : Hid (GSt ws w v1 v2.toNat (q + 1) (i + 2 + L.length) (us ++ [(⟨vi, B, d, L⟩ : SrcM)]) (some ⟨g, 0, none⟩) cap (w9.setCell ⟨w.heap.size + 1, 6, none⟩ (.slice (some ⟨g, 0, none⟩) (us.length + 1) cap))) := Lib.hid (by
                have e : (us ++ [(⟨vi, B, d, L⟩ : SrcM)]).length = us.length + 1 := by simp
                refine ⟨?_, HV9.out.2.1.other (g := w.heap.size + 1) (by omega) 6 _, ?_, ?_, by rw [e]; have := HST.out.len; omega, HV9.out.2.2.2.setCell (p := ⟨w.heap.size + 1, 6, none⟩) (by show w.heap.size ≤ w.heap.size + 1; omega) _⟩
                · rw [e]
                  exact HV9.out.1.set 6 _
                · rw [e]
                  exact HV9.out.2.2.1.blk HV9.out.1 ⟨by decide, by decide⟩ 6 _
                · rw [List.map_append, List.append_assoc, ← HST.out.con, HSTEP.out]
                  rfl)
              clear hy6 hf6 hl6
              go_wp2_with fail
              go_roundw
              case rel => exact ⟨q + 1, i + 2 + L.length, _, _, _, by go_num, by go_num, by omega, by omega, HFIN.out⟩
              case measure => simp [intOf]; omega
            · go_simp
              refine HIV.out.mono ?_
              rintro e Y1 ⟨rfl, hY1⟩
              rw [hY1]
              clear hY1 Y1
              go_simp
              refine hK.out _ _ trivial (fun hHeld => ?_)
              clear hK K
              refine wpAnyH_take (i := 6) (v := .agg #[.int .i64 vi, .slice B L.length d]) rfl (by kernel_rfl) (by kernel_rfl) (by kernel_rfl) (fun _ _ _ h => h) (Or.inl ⟨by rfl, ?_⟩) (by assumption) ?_
              · intro w' hSw
                go_simp
              show wpAnyH _ _ _ _ _ _ _ (Act.put _ (some 56) _) _
              simp only [Act.put, List.setIfInBounds_toArray, List.set_cons_zero, List.set_cons_succ]
              refine wpAnyH_ready (rs := [1, 7]) (by kernel_rfl) (by simp) ?_
              refine AllReadyH.cons rfl (fun K hK => ?_) (AllReadyH.cons rfl (fun K hK => ?_) AllReadyH.nil)
              · go_simp
                refine hK.out _ _ trivial (fun hHeld => ?_)
                clear hK K
                refine wpAnyH_ready (rs := [7]) (by kernel_rfl) (by simp) ?_
                refine AllReadyH.cons rfl (fun K hK => ?_) AllReadyH.nil
                go_simp
                refine hK.out _ _ trivial (fun hHeld => ?_)
                clear hK K
                refine wpAnyH_ready (rs := [8]) (by kernel_rfl) (by simp) ?_
                refine AllReadyH.cons rfl (fun K hK => ?_) AllReadyH.nil
                refine step_append_rec (cs := srcCs) (s := 2) _ (by rfl) (.tmp 51) (.tmp 57) 30 (by rfl) w.heap.size 80 Tryz.underlying30 src_info rfl (by decide) (by decide) srcCs_len (.slice sA us.length sc) us V (⟨vi, B, d, L⟩ : SrcM) (srcCs_one _) #[.int .i64 vi, .slice B L.length d] (by rfl) (by rfl) (by rfl) HV.out.2.2.1.row V.heap.size (by rfl) (by rfl) (by have := HST.out.len; omega) HV.out.2.2.2.1.size ?_
                intro g cap w9 ho9 hg9 _
                have HV9 := Lib.hid (And.intro (HV.out.1.grown HV.out.2.2.1.row (by decide) hg9) (And.intro (HV.out.2.1.grown HV.out.2.2.1.row (by decide) hg9) (And.intro (HV.out.2.2.1.push ho9 hg9 HV.out.2.2.2.2) (HV.out.2.2.2.1.grown hg9 HV.out.2.2.2.1.size (OwnR.ge_base HV.out.2.2.1.row)))))
                clear ho9 hg9
                refine hK.out _ _ trivial (fun hHeld => ?_)
                clear hK K
                refine wpAnyH_take (i := 9) (v := .pointer (some ⟨w.heap.size + 1, 6, none⟩)) rfl (by kernel_rfl) (by kernel_rfl) (by kernel_rfl) (fun _ _ _ h => h) (Or.inl ⟨by rfl, ?_⟩) (by assumption) ?_
                · intro w' hSw
                  go_simp
                show wpAnyH _ _ _ _ _ _ _ (Act.put _ (some 59) _) _
                simp only [Act.put, List.setIfInBounds_toArray]
                have hy6 := HV9.out.1.cell (j := 6) rfl
                have hf6 := HV9.out.1.free 6
                have hl6 := HV9.out.1.lt
                refine wpAnyH_ready (rs := [10]) (by kernel_rfl) (by simp) ?_
                refine AllReadyH.cons rfl (fun K hK => ?_) AllReadyH.nil
                go_simp
                refine hK.out _ _ trivial (fun hHeld => ?_)
                clear hK K
                refine wpAnyH_done (by kernel_rfl) ?_ _
                have HFIN : Hid (GSt ws w v1 v2.toNat (q + 1) (i + 2 + L.length) (us ++ [(⟨vi, B, d, L⟩ : SrcM)]) (some ⟨g, 0, none⟩) cap (w9.setCell ⟨w.heap.size + 1, 6, none⟩ (.slice (some ⟨g, 0, none⟩) (us.length + 1) cap))) := Lib.hid (by
                  have e : (us ++ [(⟨vi, B, d, L⟩ : SrcM)]).length = us.length + 1 := by simp
                  refine ⟨?_, HV9.out.2.1.other (g := w.heap.size + 1) (by omega) 6 _, ?_, ?_, by rw [e]; have := HST.out.len; omega, HV9.out.2.2.2.setCell (p := ⟨w.heap.size + 1, 6, none⟩) (by show w.heap.size ≤ w.heap.size + 1; omega) _⟩
                  · rw [e]
                    exact HV9.out.1.set 6 _
                  · rw [e]
                    exact HV9.out.2.2.1.blk HV9.out.1 ⟨by decide, by decide⟩ 6 _
                  · rw [List.map_append, List.append_assoc, ← HST.out.con, HSTEP.out]
                    rfl)
                clear hy6 hf6 hl6
                go_wp2_with fail
                go_roundw
                case rel => exact ⟨q + 1, i + 2 + L.length, _, _, _, by go_num, by go_num, by omega, by omega, HFIN.out⟩
                case measure => simp [intOf]; omega
              · go_simp
                refine hK.out _ _ trivial (fun hHeld => ?_)
                clear hK K
                have hc7 : (V.alloc (.cells #[.int .i64 vi, .slice B L.length d] 80)).cell? ⟨w.heap.size + 1, 6, none⟩ = some (.slice sA us.length sc) := ((below_new V _).cell (p := ⟨w.heap.size + 1, 6, none⟩) HV.out.1.lt).trans hc6
                refine wpAnyH_ready (rs := [1]) (by kernel_rfl) (by simp) ?_
                refine AllReadyH.cons rfl (fun K hK => ?_) AllReadyH.nil
                go_simp
                refine hK.out _ _ trivial (fun hHeld => ?_)
                clear hK K
                refine wpAnyH_ready (rs := [8]) (by kernel_rfl) (by simp) ?_
                refine AllReadyH.cons rfl (fun K hK => ?_) AllReadyH.nil
                refine step_append_rec (cs := srcCs) (s := 2) _ (by rfl) (.tmp 51) (.tmp 57) 30 (by rfl) w.heap.size 80 Tryz.underlying30 src_info rfl (by decide) (by decide) srcCs_len (.slice sA us.length sc) us V (⟨vi, B, d, L⟩ : SrcM) (srcCs_one _) #[.int .i64 vi, .slice B L.length d] (by rfl) (by rfl) (by rfl) HV.out.2.2.1.row V.heap.size (by rfl) (by rfl) (by have := HST.out.len; omega) HV.out.2.2.2.1.size ?_
                intro g cap w9 ho9 hg9 _
                have HV9 := Lib.hid (And.intro (HV.out.1.grown HV.out.2.2.1.row (by decide) hg9) (And.intro (HV.out.2.1.grown HV.out.2.2.1.row (by decide) hg9) (And.intro (HV.out.2.2.1.push ho9 hg9 HV.out.2.2.2.2) (HV.out.2.2.2.1.grown hg9 HV.out.2.2.2.1.size (OwnR.ge_base HV.out.2.2.1.row)))))
                clear ho9 hg9
                refine hK.out _ _ trivial (fun hHeld => ?_)
                clear hK K
                refine wpAnyH_take (i := 9) (v := .pointer (some ⟨w.heap.size + 1, 6, none⟩)) rfl (by kernel_rfl) (by kernel_rfl) (by kernel_rfl) (fun _ _ _ h => h) (Or.inl ⟨by rfl, ?_⟩) (by assumption) ?_
                · intro w' hSw
                  go_simp
                show wpAnyH _ _ _ _ _ _ _ (Act.put _ (some 59) _) _
                simp only [Act.put, List.setIfInBounds_toArray]
                have hy6 := HV9.out.1.cell (j := 6) rfl
                have hf6 := HV9.out.1.free 6
                have hl6 := HV9.out.1.lt
                refine wpAnyH_ready (rs := [10]) (by kernel_rfl) (by simp) ?_
                refine AllReadyH.cons rfl (fun K hK => ?_) AllReadyH.nil
                go_simp
                refine hK.out _ _ trivial (fun hHeld => ?_)
                clear hK K
                refine wpAnyH_done (by kernel_rfl) ?_ _
                have HFIN : Hid (GSt ws w v1 v2.toNat (q + 1) (i + 2 + L.length) (us ++ [(⟨vi, B, d, L⟩ : SrcM)]) (some ⟨g, 0, none⟩) cap (w9.setCell ⟨w.heap.size + 1, 6, none⟩ (.slice (some ⟨g, 0, none⟩) (us.length + 1) cap))) := Lib.hid (by
                  have e : (us ++ [(⟨vi, B, d, L⟩ : SrcM)]).length = us.length + 1 := by simp
                  refine ⟨?_, HV9.out.2.1.other (g := w.heap.size + 1) (by omega) 6 _, ?_, ?_, by rw [e]; have := HST.out.len; omega, HV9.out.2.2.2.setCell (p := ⟨w.heap.size + 1, 6, none⟩) (by show w.heap.size ≤ w.heap.size + 1; omega) _⟩
                  · rw [e]
                    exact HV9.out.1.set 6 _
                  · rw [e]
                    exact HV9.out.2.2.1.blk HV9.out.1 ⟨by decide, by decide⟩ 6 _
                  · rw [List.map_append, List.append_assoc, ← HST.out.con, HSTEP.out]
                    rfl)
                clear hy6 hf6 hl6
                go_wp2_with fail
                go_roundw
                case rel => exact ⟨q + 1, i + 2 + L.length, _, _, _, by go_num, by go_num, by omega, by omega, HFIN.out⟩
                case measure => simp [intOf]; omega
          · have d2 : decide ((i : Int) < (n : Int)) = false := decide_eq_false (by omega)
            obtain ⟨D, hD⟩ : ∃ D, D = (actCs ({ kindM 1 with node := v1, sA := sA, sc := sc, srcs := us } : ActM)).toArray := ⟨_, rfl⟩
            have hrow : (wr).heap[w.heap.size + 1]? = some (.cells D 33 (0, 0)) := by rw [hD]; exact HST.out.ab
            have hrw : (wr).heap[w.heap.size]? = some (.cells #[.int .i64 0, .int .i64 0, .int .i64 0, .int .i64 0, .int .i64 0, .int .i64 0, .slice none 0 0, .slice none 0 0] 33 (0, 0)) := HST.out.rb
            have hsz : (Tryz.prog.info? 33).map (·.size) = some D.size := by rw [hD]; exact act_size
            have hold : (#[.int .i64 0, .int .i64 0, .int .i64 0, .int .i64 0, .int .i64 0, .int .i64 0, .slice none 0 0, .slice none 0 0] : Array Value).size = D.size := by rw [hD]; rfl
            have hone : D.all (·.oneCell') = true := by rw [hD]; exact actCs_one _
            have HDV := Lib.hid (show actV ({ kindM 1 with node := v1, sA := sA, sc := sc, srcs := us } : ActM) = .agg D by rw [hD]; rfl)
            clear hD
            have HALL := Lib.hid (show us.map SrcM.con = srcsR ws v2.toNat 3 by rw [← HST.out.con, srcsR_stop (.inr (by rw [← HNN.out]; omega)), List.append_nil])
            go_wp2_with (first | (refine wpList_load_row_g (by rfl) 33 (.tmp 3) rfl (w.heap.size + 1) rfl 33 D (0, 0) _ hrow Tryz.underlying33 rfl hsz ?_) | (refine wpList_store_row rfl 33 (.tmp 2) (.tmp 142) rfl w.heap.size D rfl rfl 33 _ hrw hsz hold hone ?_))
            refine HA2.out.mono ?_
            rintro e Y ⟨rfl, hY⟩
            rw [hY]
            clear hY Y
            go_wp2_with (first | (refine wpList_load_row_g (by rfl) 33 (.tmp 3) rfl (w.heap.size + 1) rfl 33 D (0, 0) _ hrow Tryz.underlying33 rfl hsz ?_) | (refine wpList_store_row rfl 33 (.tmp 2) (.tmp 142) rfl w.heap.size D rfl rfl 33 _ hrw hsz hold hone ?_))
            refine bodyPost_ret (results_cell1 Tryz.results34 _ _ w.heap.size 33 D (0, 0) _ (by rfl) (setRow_heap _ _ _ _ _ _ hrw) Tryz.underlying33 rfl hsz) rfl ?_
            refine ⟨({ kindM 1 with node := v1, sA := sA, sc := sc, srcs := us } : ActM), by rw [HDV.out], ?_, ⟨⟨own_keep HST.out.own.row HST.out.rb (by decide) (only_row2 _ w.heap.size D), fun s hs => own_keep (HST.out.own.nodes s hs) HST.out.rb (by decide) (only_row2 _ w.heap.size D)⟩, nil_own _ _⟩, below_setR (HST.out.below) (Nat.le_refl _) _⟩
            rw [HKD.out.2.1]
            show ({ kindA 1 with node := v1, srcs := us.map SrcM.con } : ActC) = { kindA 1 with node := atR ws 1, srcs := srcsR ws (atR ws 2).toNat 3 }
            rw [HALL.out, HV1.out, HV2.out]
        · have d1 : decide ((q : Int) < v2) = false := decide_eq_false h1
          obtain ⟨D, hD⟩ : ∃ D, D = (actCs ({ kindM 1 with node := v1, sA := sA, sc := sc, srcs := us } : ActM)).toArray := ⟨_, rfl⟩
          have hrow : (wr).heap[w.heap.size + 1]? = some (.cells D 33 (0, 0)) := by rw [hD]; exact HST.out.ab
          have hrw : (wr).heap[w.heap.size]? = some (.cells #[.int .i64 0, .int .i64 0, .int .i64 0, .int .i64 0, .int .i64 0, .int .i64 0, .slice none 0 0, .slice none 0 0] 33 (0, 0)) := HST.out.rb
          have hsz : (Tryz.prog.info? 33).map (·.size) = some D.size := by rw [hD]; exact act_size
          have hold : (#[.int .i64 0, .int .i64 0, .int .i64 0, .int .i64 0, .int .i64 0, .int .i64 0, .slice none 0 0, .slice none 0 0] : Array Value).size = D.size := by rw [hD]; rfl
          have hone : D.all (·.oneCell') = true := by rw [hD]; exact actCs_one _
          have HDV := Lib.hid (show actV ({ kindM 1 with node := v1, sA := sA, sc := sc, srcs := us } : ActM) = .agg D by rw [hD]; rfl)
          clear hD
          have HALL := Lib.hid (show us.map SrcM.con = srcsR ws v2.toNat 3 by rw [← HST.out.con, srcsR_stop (.inl (by omega)), List.append_nil])
          go_wp2_with (first | (refine wpList_load_row_g (by rfl) 33 (.tmp 3) rfl (w.heap.size + 1) rfl 33 D (0, 0) _ hrow Tryz.underlying33 rfl hsz ?_) | (refine wpList_store_row rfl 33 (.tmp 2) (.tmp 142) rfl w.heap.size D rfl rfl 33 _ hrw hsz hold hone ?_))
          refine HA2.out.mono ?_
          rintro e Y ⟨rfl, hY⟩
          rw [hY]
          clear hY Y
          go_wp2_with (first | (refine wpList_load_row_g (by rfl) 33 (.tmp 3) rfl (w.heap.size + 1) rfl 33 D (0, 0) _ hrow Tryz.underlying33 rfl hsz ?_) | (refine wpList_store_row rfl 33 (.tmp 2) (.tmp 142) rfl w.heap.size D rfl rfl 33 _ hrw hsz hold hone ?_))
          refine bodyPost_ret (results_cell1 Tryz.results34 _ _ w.heap.size 33 D (0, 0) _ (by rfl) (setRow_heap _ _ _ _ _ _ hrw) Tryz.underlying33 rfl hsz) rfl ?_
          refine ⟨({ kindM 1 with node := v1, sA := sA, sc := sc, srcs := us } : ActM), by rw [HDV.out], ?_, ⟨⟨own_keep HST.out.own.row HST.out.rb (by decide) (only_row2 _ w.heap.size D), fun s hs => own_keep (HST.out.own.nodes s hs) HST.out.rb (by decide) (only_row2 _ w.heap.size D)⟩, nil_own _ _⟩, below_setR (HST.out.below) (Nat.le_refl _) _⟩
          rw [HKD.out.2.1]
          show ({ kindA 1 with node := v1, srcs := us.map SrcM.con } : ActC) = { kindA 1 with node := atR ws 1, srcs := srcsR ws (atR ws 2).toNat 3 }
          rw [HALL.out, HV1.out, HV2.out]
theorem guess51_any (ws : List Wd) (A : Option Addr) (c : Nat) (w : World) (hat : WdsAt w w.heap.size A ws) (hl : ∀ x ∈ ws, x.length ≤ 1000000000) (hn : ws.length ≤ 1000000) (hne : ws ≠ []) : Calls Tryz.prog 34 #[.slice A ws.length c] w (RetG ws w) := by
  obtain ⟨x, r, hws⟩ : ∃ x r, ws = x :: r := by
    cases ws with
    | nil => exact absurd rfl hne
    | cons x r => exact ⟨x, r, rfl⟩
  obtain ⟨h0, h1⟩ := kindR_range actN x 19
  have hc : kindR actN x 19 = 0 ∨ kindR actN x 19 = 1 ∨ kindR actN x 19 = 2 ∨ kindR actN x 19 = 3 ∨ kindR actN x 19 = 4 ∨ kindR actN x 19 = 5 ∨ kindR actN x 19 = 6 ∨ kindR actN x 19 = 7 ∨ kindR actN x 19 = 8 ∨ kindR actN x 19 = 9 ∨ kindR actN x 19 = 10 ∨ kindR actN x 19 = 11 ∨ kindR actN x 19 = 12 ∨ kindR actN x 19 = 13 ∨ kindR actN x 19 = 14 ∨ kindR actN x 19 = 15 ∨ kindR actN x 19 = 16 ∨ kindR actN x 19 = 17 ∨ kindR actN x 19 = 18 ∨ kindR actN x 19 = 19 := by omega
  rcases hc with h | h | h | h | h | h | h | h | h | h | h | h | h | h | h | h | h | h | h | h
  · exact guess51_0 ws A c w hat hl hn x r hws h
  · exact guess51_1 ws A c w hat hl hn x r hws h
  · exact guess51_2 ws A c w hat hl hn x r hws h
  · exact guess51_3 ws A c w hat hl hn x r hws h
  · exact guess51_4 ws A c w hat hl hn x r hws h
  · exact guess51_5 ws A c w hat hl hn x r hws h
  · exact guess51_6 ws A c w hat hl hn x r hws h
  · exact guess51_7 ws A c w hat hl hn x r hws h
  · exact guess51_8 ws A c w hat hl hn x r hws h
  · exact guess51_9 ws A c w hat hl hn x r hws h
  · exact guess51_10 ws A c w hat hl hn x r hws h
  · exact guess51_11 ws A c w hat hl hn x r hws h
  · exact guess51_12 ws A c w hat hl hn x r hws h
  · exact guess51_13 ws A c w hat hl hn x r hws h
  · exact guess51_14 ws A c w hat hl hn x r hws h
  · exact guess51_15 ws A c w hat hl hn x r hws h
  · exact guess51_16 ws A c w hat hl hn x r hws h
  · exact guess51_17 ws A c w hat hl hn x r hws h
  · exact guess51_18 ws A c w hat hl hn x r hws h
  · exact guess51_19 ws A c w hat hl hn x r hws h
end
section
open Go.RowKit Go.Maps
open Go.Lib (itoa)

/-- what ParseAction returns. -/
def RetPa (s : Wd) (w : World) (e : Ending) (w' : World) : Prop :=
  (∃ a : ActM, ActOk a.con ∧ VAct a.con ∧ s = actT a.con ∧ s.length ≤ 65536 ∧ e = .returned (.tuple #[actV a, .int .i64 0]) ∧ ActO w' w.heap.size a ∧ ActBd a ∧ Below w.heap.size w w') ∨
  ((65536 < s.length ∨ ∀ b, VAct b → ActOk b → s ≠ actT b) ∧ e = .returned (.tuple #[actV (kindM 0), .int .i64 2]) ∧ Below w.heap.size w w')
set_option maxRecDepth 100000 in
set_option maxHeartbeats 16000000 in
theorem parseAct_any (s : Wd) (w : World) (hr : Ready w) : Calls Tryz.prog 19 #[.string (bs s)] w (RetPa s w) := by
  have hb0 : Below w.heap.size w (w.alloc (.cells #[.int .i64 0, .int .i64 0, .int .i64 0, .int .i64 0, .int .i64 0, .int .i64 0, .slice none 0 0, .slice none 0 0] 33)) := (Below.refl _ _).alloc (Nat.le_refl _) _
  have hn0 := new_obj w (.cells #[.int .i64 0, .int .i64 0, .int .i64 0, .int .i64 0, .int .i64 0, .int .i64 0, .slice none 0 0, .slice none 0 0] 33)
  have hs0 : (w.alloc (.cells #[.int .i64 0, .int .i64 0, .int .i64 0, .int .i64 0, .int .i64 0, .int .i64 0, .slice none 0 0, .slice none 0 0] 33)).heap.size = w.heap.size + 1 := by simp
  obtain ⟨ZA, hZA⟩ : ∃ ZA : Array Value, ZA = #[.int .i64 0, .int .i64 0, .int .i64 0, .int .i64 0, .int .i64 0, .int .i64 0, .slice none 0 0, .slice none 0 0] := ⟨_, rfl⟩
  have HZV := Lib.hid (show actV (kindM 0) = .agg ZA by rw [hZA]; rfl)
  have hbt : Tryz.prog.built 33 [] = some ZA := by rw [hZA]; rfl
  have hszz : (Tryz.prog.info? 33).map (·.size) = some ZA.size := by rw [hZA]; exact act_size
  have honez : ZA.all (·.oneCell') = true := by rw [hZA]; exact actCs_one (kindM 0)
  obtain ⟨X0, hX0⟩ : ∃ X0, X0 = w.alloc (.cells #[.int .i64 0, .int .i64 0, .int .i64 0, .int .i64 0, .int .i64 0, .int .i64 0, .slice none 0 0, .slice none 0 0] 33) := ⟨_, rfl⟩
  rw [← hX0] at hb0 hn0 hs0
  rw [← hZA] at hn0
  have HZN := Lib.hid (show ∀ a : ActM, ZA.size = (actCs a).toArray.size by rw [hZA]; exact fun _ => rfl)
  have HB0 := Lib.hid (And.intro hb0 (And.intro hn0 hr))
  by_cases hs : s.length ≤ 65536
  rotate_left
  · have d0 := d65_yes hs
    have HS := Lib.hid hs
    clear hs hr hb0 hs0 hZA
    go_enter Tryz.func19, Tryz.ntmps19
    go_wp2_with (first | (rw [← hX0]; refine wpList_build_to rfl 33 #[] rfl ZA (by rw [Array.toList_map]; exact hbt) ?_) | (refine wpList_store_row rfl 33 (.tmp 2) (.tmp 9) rfl w.heap.size ZA rfl rfl 33 _ hn0 hszz rfl honez ?_))
    refine bodyPost_ret (results_cell_tmp Tryz.results19 _ _ w.heap.size 33 ZA (0, 0) _ (by rfl) (setRow_heap _ _ _ _ _ _ (new_obj w _)) Tryz.underlying33 rfl hszz) rfl ?_
    exact .inr ⟨.inl (by have := HS.out; omega), by rw [HZV.out]; rfl, below_row (below_new _ _) _⟩
  have d0 := d65_no hs
  have HS := Lib.hid (And.intro hs hr)
  have hr0 := hr.below hb0
  have HSP := Lib.hid (split_any s hs X0 hr0)
  have HRS := Lib.hid (rd_start X0 s hs)
  obtain ⟨n, hn⟩ : ∃ n, n = (wordsL s).length := ⟨_, rfl⟩
  obtain ⟨X1, hX1⟩ : ∃ X1, X1 = X0.alloc (.cells ((wordsL s).map wdV).toArray 9) := ⟨_, rfl⟩
  have hb1 : Below X0.heap.size X0 X1 := by rw [hX1]; exact below_new _ _
  have hs1 : X1.heap.size = X0.heap.size + 1 := by rw [hX1]; simp
  have hb2 : Below X1.heap.size X1 (X1.alloc (.cells #[.slice (some ⟨X0.heap.size, 0, none⟩) n n, .bool false] RT)) := below_new _ _
  obtain ⟨X2, hX2⟩ : ∃ X2, X2 = X1.alloc (.cells #[.slice (some ⟨X0.heap.size, 0, none⟩) n n, .bool false] RT) := ⟨_, rfl⟩
  have hs2 : X2.heap.size = X1.heap.size + 1 := by rw [hX2]; simp
  rw [← hX1, ← hn] at HSP HRS
  rw [← hX2] at hb2 HRS
  rw [← hs1] at HRS
  obtain ⟨rb, hrb⟩ : ∃ rb, rb = X1.heap.size := ⟨_, rfl⟩
  have hB2 : Below w.heap.size w X2 := hb0.trans ((hb1.mono hb0.size).trans (hb2.mono (Nat.le_trans hb0.size hb1.size)))
  have HRBX := Lib.hid (show rb < X2.heap.size by omega)
  have HB2 := Lib.hid (And.intro hB2 (And.intro (((hb1.trans (hb2.mono hb1.size)).block w.heap.size (by omega)).trans hn0) (show w.heap.size < rb by omega)))
  have hgr : Tryz.prog.globals.size ≤ rb := Nat.le_trans hr.room (by omega)
  rw [← hrb] at HRS
  have HRD := Lib.hid (raction_any rb (some (wordsL s)) X2 HRS.out (hr.below hB2) hgr)
  have HS2 := Lib.hid hs2
  clear hs hr hr0 hb0 hb1 hb2 hB2 hn hgr hs0 hs1 hs2 hZA
  go_enter Tryz.func19, Tryz.ntmps19
  go_wp2_with fail
  rw [← hX0]
  refine HSP.out.mono ?_
  rintro e Xn ⟨rfl, hXn⟩
  rw [hXn]
  clear hXn Xn hX0 hX1
  go_wp2_with fail
  rw [← hX2, ← hrb]
  clear hX2 hrb
  refine HRD.out.mono ?_
  rintro e Y ⟨a, st', rfl, h1, ho, hown, hbd, hrd, hmon⟩
  obtain ⟨D, hD⟩ : ∃ D, D = (actCs a).toArray := ⟨_, rfl⟩
  have hv : actV a = .agg D := by rw [hD]; rfl
  have hszd : (Tryz.prog.info? 33).map (·.size) = some D.size := by rw [hD]; exact act_size
  have honed : D.all (·.oneCell') = true := by rw [hD]; exact actCs_one a
  have hold : (#[.int .i64 0, .int .i64 0, .int .i64 0, .int .i64 0, .int .i64 0, .int .i64 0, .slice none 0 0, .slice none 0 0] : Array Value).size = D.size := by rw [hD]; rfl
  have hoy := new_obj Y (.cells #[.int .i64 0, .int .i64 0, .int .i64 0, .int .i64 0, .int .i64 0, .int .i64 0, .slice none 0 0, .slice none 0 0] 33)
  have HD := Lib.hid (And.intro hD hv)
  have hYB : Below w.heap.size w Y := HB2.out.1.trans ((ho.low (by have := HRBX.out; omega)).mono (Nat.le_of_lt HB2.out.2.2))
  have hb5 := below_new Y (.cells D 33)
  have HQ := Lib.hid (And.intro (h1.next hb5) (And.intro hown (And.intro hbd hrd)))
  have HY := Lib.hid (And.intro hYB (And.intro (((ho.low (by have := HRBX.out; omega)).block w.heap.size HB2.out.2.2).trans HB2.out.2.1) ho.size))
  rw [hv]
  clear h1 ho hown hbd hrd hD hv hYB
  go_wp2_with (refine wpList_store_row rfl 33 (.tmp 5) (.tmp 13) rfl Y.heap.size D rfl rfl 33 _ hoy hszd hold honed ?_)
  rw [World.setRow_alloc_new]
  have hrow5 := new_obj Y (.cells D 33)
  obtain ⟨X5, hX5⟩ : ∃ X5, X5 = Y.alloc (.cells D 33) := ⟨_, rfl⟩
  rw [← hX5] at hb5 HQ hrow5 ⊢
  have HFN := Lib.hid (rfin_any rb st' X5 HQ.out.1)
  have HB5 := Lib.hid (And.intro (HY.out.1.trans (hb5.mono HY.out.1.size)) (And.intro hb5 ((hb5.block w.heap.size (by have := HB2.out.2.2; have := HY.out.2.2; have := HRBX.out; omega)).trans HY.out.2.1)))
  have hrw5 := HB5.out.2.2
  have HNO : Hid (¬ (st' = some [] ∧ ActOk a.con) → ∀ b, VAct b → ActOk b → s ≠ actT b) := Lib.hid (fun q b hb hbo => act_leave HQ.out.2.2.2 q b hb)
  have HYES : Hid (∀ X6, Below X5.heap.size X5 X6 → st' = some [] → ActOk a.con → RetPa s w (.returned (.tuple #[.agg D, .int .i64 0])) (X6.setRow w.heap.size D)) := Lib.hid (fun X6 hb6 q1 q2 => by
    obtain ⟨t1, t2⟩ := act_take HQ.out.2.2.2 q1 q2
    have ho6 := only_row2 X6 w.heap.size D
    have hbk : Blk X6 w.heap.size 33 ZA.toList := by
      show X6.heap[w.heap.size]? = _
      rw [hb6.block w.heap.size (Array.getElem?_eq_some_iff.1 HB5.out.2.2).1, HB5.out.2.2]
    have hown2 := ((HQ.out.2.1.next HB5.out.2.1).next hb6).base HB2.out.1.size
    exact .inl ⟨a, q2, t1, t2, HS.out.1, by rw [HD.out.2], (hown2.only2 hbk ⟨by decide, by decide⟩ ho6), HQ.out.2.2.1, below_row (HB5.out.1.trans (hb6.mono HB5.out.1.size)) _⟩)
  clear hoy hold honed hX5
  by_cases hf : st' = some []
  rotate_left
  · rw [tb_false hf] at HFN
    have HF := Lib.hid hf
    clear hf hb5 hrow5
    go_wp2_with fail
    refine HFN.out.mono ?_
    rintro e Xn ⟨rfl, hXn⟩
    rw [hXn]
    clear hXn Xn
    go_wp2_with (first | (refine wpList_build_to rfl 33 #[] rfl ZA (by rw [Array.toList_map]; exact hbt) ?_) | (refine wpList_store_row rfl 33 (.tmp 2) (.tmp 21) rfl w.heap.size ZA rfl rfl 33 _ hrw5 hszz rfl honez ?_))
    refine bodyPost_ret (results_cell_tmp Tryz.results19 _ _ w.heap.size 33 ZA (0, 0) _ (by rfl) (setRow_heap _ _ _ _ _ _ hrw5) Tryz.underlying33 rfl hszz) rfl ?_
    exact .inr ⟨.inr (HNO.out (fun q => HF.out q.1)), by rw [HZV.out]; rfl, below_row HB5.out.1 _⟩
  rw [tb_true hf] at HFN
  have HF := Lib.hid hf
  have HV := Lib.hid (vAct_any a X5 (HQ.out.2.1.next HB5.out.2.1).at HQ.out.2.2.1.l)
  rw [HD.out.2] at HV
  clear hf hb5
  go_wp2_with fail
  refine HFN.out.mono ?_
  rintro e Xn ⟨rfl, hXn⟩
  rw [hXn]
  clear hXn Xn
  by_cases hok : ActOk a.con
  · rw [tb_true hok] at HV
    have HOK := Lib.hid hok
    clear hok
    go_wp2_with (refine wpList_load_row_g (by rfl) 33 (.tmp 5) rfl Y.heap.size rfl 33 D (0, 0) _ hrow5 Tryz.underlying33 rfl hszd ?_)
    refine HV.out.mono ?_
    rintro e X6 ⟨rfl, hb6⟩
    have HF6 := Lib.hid (HYES.out X6 hb6 HF.out HOK.out)
    have hrow6 := (hb6.block Y.heap.size (Array.getElem?_eq_some_iff.1 hrow5).1).trans hrow5
    have hrw6 := (hb6.block w.heap.size (Array.getElem?_eq_some_iff.1 hrw5).1).trans hrw5
    have honed : D.all (·.oneCell') = true := by rw [HD.out.1]; exact actCs_one a
    have hzd : ZA.size = D.size := by rw [HD.out.1]; exact HZN.out a
    clear hb6 hrow5 hrw5
    go_wp2_with (first | (refine wpList_load_row_g (by rfl) 33 (.tmp 5) rfl Y.heap.size rfl 33 D (0, 0) _ hrow6 Tryz.underlying33 rfl hszd ?_) | (refine wpList_store_row rfl 33 (.tmp 2) (.tmp 22) rfl w.heap.size D rfl rfl 33 _ hrw6 hszd hzd honed ?_))
    refine bodyPost_ret (results_cell_tmp Tryz.results19 _ _ w.heap.size 33 D (0, 0) _ (by rfl) (setRow_heap _ _ _ _ _ _ hrw6) Tryz.underlying33 rfl hszd) rfl ?_
    exact HF6.out
  · rw [tb_false hok] at HV
    have HOK := Lib.hid hok
    clear hok
    go_wp2_with (refine wpList_load_row_g (by rfl) 33 (.tmp 5) rfl Y.heap.size rfl 33 D (0, 0) _ hrow5 Tryz.underlying33 rfl hszd ?_)
    refine HV.out.mono ?_
    rintro e X6 ⟨rfl, hb6⟩
    have HB6 := Lib.hid (HB5.out.1.trans (hb6.mono HB5.out.1.size))
    have hrw6 := (hb6.block w.heap.size (Array.getElem?_eq_some_iff.1 hrw5).1).trans hrw5
    clear hb6 hrow5 hrw5
    go_wp2_with (first | (refine wpList_build_to rfl 33 #[] rfl ZA (by rw [Array.toList_map]; exact hbt) ?_) | (refine wpList_store_row rfl 33 (.tmp 2) (.tmp 21) rfl w.heap.size ZA rfl rfl 33 _ hrw6 hszz rfl honez ?_))
    refine bodyPost_ret (results_cell_tmp Tryz.results19 _ _ w.heap.size 33 ZA (0, 0) _ (by rfl) (setRow_heap _ _ _ _ _ _ hrw6) Tryz.underlying33 rfl hszz) rfl ?_
    exact .inr ⟨.inr (HNO.out (fun q => HOK.out q.2)), by rw [HZV.out]; rfl, below_row HB6.out _⟩
end
section
open Go.RowKit Go.Maps

theorem words_act (b : ActC) : wordsL (actT b) = actW b := words_line _ (by simp [actW]) (actW_no b)
theorem bd_of {a : ActM} (h : ActR a.con) (hs : actSize a.con ≤ 100000) : ActBd a := by
  obtain ⟨h1, h2, h3⟩ := size_parts hs
  exact ⟨h.kind, h.who, h.n, h.call, h.other, h.node, ⟨by omega, fun s hq => by
    obtain ⟨k1, _, k3⟩ := h.srcs s.con (List.mem_map_of_mem (f := SrcM.con) hq)
    exact ⟨k1, by have := h3 s hq; omega, k3⟩⟩, ⟨by omega, h.groups⟩⟩
set_option maxRecDepth 100000 in
set_option maxHeartbeats 8000000 in
theorem do51_any (s : Wd) (hs : s.length ≤ 65536) (w : World) : Calls Tryz.prog 21 #[.string (bs s)] w (RetPa s w) := by
  obtain ⟨ZA, hZA⟩ : ∃ ZA : Array Value, ZA = #[.int .i64 0, .int .i64 0, .int .i64 0, .int .i64 0, .int .i64 0, .int .i64 0, .slice none 0 0, .slice none 0 0] := ⟨_, rfl⟩
  have HZV := Lib.hid (show actV (kindM 0) = .agg ZA by rw [hZA]; rfl)
  have hbt : Tryz.prog.built 33 [] = some ZA := by rw [hZA]; rfl
  have hszz : (Tryz.prog.info? 33).map (·.size) = some ZA.size := by rw [hZA]; exact act_size
  have honez : ZA.all (·.oneCell') = true := by rw [hZA]; exact actCs_one (kindM 0)
  obtain ⟨X0, hX0⟩ : ∃ X0, X0 = w.alloc (.cells #[.int .i64 0, .int .i64 0, .int .i64 0, .int .i64 0, .int .i64 0, .int .i64 0, .slice none 0 0, .slice none 0 0] 33) := ⟨_, rfl⟩
  have hb0 : Below w.heap.size w X0 := by rw [hX0]; exact below_new _ _
  have hn0 : X0.heap[w.heap.size]? = some (.cells ZA 33 (0, 0)) := by rw [hX0, hZA]; exact new_obj _ _
  have HZN := Lib.hid (show ∀ a : ActM, ZA.size = (actCs a).toArray.size by rw [hZA]; exact fun _ => rfl)
  have HZO := Lib.hid (show ∀ a : ActM, (#[.int .i64 0, .int .i64 0, .int .i64 0, .int .i64 0, .int .i64 0, .int .i64 0, .slice none 0 0, .slice none 0 0] : Array Value).size = (actCs a).toArray.size from fun _ => rfl)
  have HS := Lib.hid hs
  have HB0 := Lib.hid (And.intro hb0 hn0)
  have HWD : Hid (Calls Tryz.prog 31 #[.string (bs s)] X0 (RetWs s X0)) := Lib.hid (by
    have h := words51_any (bs s) (by rw [bs_size]; omega) X0
    rw [bs_data] at h
    exact h)
  have hwl : (wordsL s).length ≤ 65537 := by have := wordsL_len s; omega
  have HWL := Lib.hid hwl
  have HWX := Lib.hid (show ∀ x ∈ wordsL s, x.length ≤ 1000000000 from fun x hx => by have := word_len hx; omega)
  obtain ⟨S1, hS1⟩ : ∃ S, S = bs s := ⟨_, rfl⟩
  have HS1 := Lib.hid hS1
  rw [← hS1] at HWD ⊢
  clear hs hb0 hn0 hZA hwl hS1
  go_enter Tryz.func21, Tryz.ntmps21
  go_wp2_with fail
  rw [← hX0]
  clear hX0
  refine HWD.out.mono ?_
  rintro e X1 ⟨A, c, rfl, hat, hb1⟩
  have HG := Lib.hid (guess51_any (wordsL s) A c X1 hat HWX.out (by have := HWL.out; omega) (wordsL_ne s))
  have HB1 := Lib.hid (HB0.out.1.trans (hb1.mono HB0.out.1.size))
  have HX1 := Lib.hid ((hb1.block w.heap.size (Array.getElem?_eq_some_iff.1 HB0.out.2).1).trans HB0.out.2)
  obtain ⟨n, hn⟩ : ∃ n, n = (wordsL s).length := ⟨_, rfl⟩
  rw [← hn] at HG ⊢
  clear hat hb1 hn HWD
  go_wp2_with fail
  refine HG.out.mono ?_
  rintro e X2 ⟨a, rfl, hcon, hown, hb2⟩
  have hr2 : ActR a.con := by rw [hcon]; exact guessA_r _ (by have := HWL.out; omega)
  have hz2 : actSize a.con ≤ 100000 := by rw [hcon]; have := guessA_size (wordsL s) (by have := HWL.out; omega); have := HWL.out; omega
  have hbd := bd_of hr2 hz2
  have HB2 := Lib.hid (HB1.out.trans (hb2.mono HB1.out.size))
  have HX2 := Lib.hid ((hb2.block w.heap.size (Array.getElem?_eq_some_iff.1 HX1.out).1).trans HX1.out)
  obtain ⟨D, hD⟩ : ∃ D, D = (actCs a).toArray := ⟨_, rfl⟩
  have hv : actV a = .agg D := by rw [hD]; rfl
  have hszd : (Tryz.prog.info? 33).map (·.size) = some D.size := by rw [hD]; exact act_size
  have honed : D.all (·.oneCell') = true := by rw [hD]; exact actCs_one a
  have hold : (#[.int .i64 0, .int .i64 0, .int .i64 0, .int .i64 0, .int .i64 0, .int .i64 0, .slice none 0 0, .slice none 0 0] : Array Value).size = D.size := by rw [hD]; exact HZO.out a
  have hzd : ZA.size = D.size := by rw [hD]; exact HZN.out a
  have hoy := new_obj X2 (.cells #[.int .i64 0, .int .i64 0, .int .i64 0, .int .i64 0, .int .i64 0, .int .i64 0, .slice none 0 0, .slice none 0 0] 33)
  have hb3 := below_new X2 (.cells D 33)
  have HA := Lib.hid (And.intro hcon (And.intro (hown.next hb3) hbd))
  have HAC := Lib.hid (act51_any a (X2.alloc (.cells D 33)) (hown.next hb3).at hbd.l hr2 hz2)
  have HRW := Lib.hid (new_obj X2 (.cells D 33))
  have HB3 := Lib.hid (And.intro (HB2.out.trans (hb3.mono HB2.out.size)) ((hb3.block w.heap.size (Array.getElem?_eq_some_iff.1 HX2.out).1).trans HX2.out))
  have HDV := Lib.hid hv
  rw [hv] at HAC ⊢
  clear hcon hown hb2 hr2 hz2 hbd hD hv hb3
  obtain ⟨X3, hX3⟩ : ∃ X3, X3 = X2.alloc (.cells D 33) := ⟨_, rfl⟩
  rw [← hX3] at HAC HRW HB3 HA
  have hrow := HRW.out
  have hsr := World.setRow_alloc_new X2 #[.int .i64 0, .int .i64 0, .int .i64 0, .int .i64 0, .int .i64 0, .int .i64 0, .slice none 0 0, .slice none 0 0] D 33
  rw [← hX3] at hsr
  clear hX3
  go_wp2_with (first | (refine wpList_store_row rfl 33 (.tmp 4) (.tmp 9) rfl X2.heap.size D rfl rfl 33 _ hoy hszd hold honed ?_; rw [hsr]) | (refine wpList_load_row_g (by rfl) 33 (.tmp 4) rfl X2.heap.size rfl 33 D (0, 0) _ hrow Tryz.underlying33 rfl hszd ?_))
  clear hsr hoy hold
  refine HAC.out.mono ?_
  rintro e X4 ⟨hf, hb4⟩
  have HB4 := Lib.hid (HB3.out.1.trans (hb4.mono HB3.out.1.size))
  have hrw : X4.heap[w.heap.size]? = some (.cells ZA 33 (0, 0)) := (hb4.block w.heap.size (Array.getElem?_eq_some_iff.1 HB3.out.2).1).trans HB3.out.2
  have hrow4 : X4.heap[X2.heap.size]? = some (.cells D 33 (0, 0)) := (hb4.block X2.heap.size (Array.getElem?_eq_some_iff.1 HRW.out).1).trans HRW.out
  have HA4 := Lib.hid (And.intro HA.out.1 (And.intro (HA.out.2.1.next hb4) HA.out.2.2))
  have HNO : Hid (∀ b, VAct b → ActOk b → s = actT b → a.con = b) := Lib.hid (fun b hb _ q => by
    rw [HA.out.1, q, words_act, guess_act hb])
  clear hrow hb4
  rcases hf with ⟨hok, hlen, rfl⟩ | ⟨hok, hlen, rfl⟩ | ⟨hok, rfl⟩
  · obtain ⟨T1, hT1⟩ : ∃ T, T = bs (actT a.con) := ⟨_, rfl⟩
    have HEQ := Lib.hid (show T1.toList = S1.toList ↔ actT a.con = s by rw [hT1, HS1.out]; exact bs_lists)
    rw [← hT1]
    have HOK := Lib.hid hok
    clear hT1 hok hlen
    by_cases hq : T1.toList = S1.toList
    · have hts := HEQ.out.1 hq
      have HFIN : Hid (RetPa s w (.returned (.tuple #[.agg D, .int .i64 0])) (X4.setRow w.heap.size D)) := Lib.hid (by
        have hbk : Blk X4 w.heap.size 33 ZA.toList := hrw
        have hown2 := HA4.out.2.1.base HB1.out.size
        have hbdr : ActR a.con := HA4.out.2.2.r
        exact .inl ⟨a, HOK.out, hbdr.vact HOK.out, hts.symm, HS.out, by rw [HDV.out], hown2.only2 hbk ⟨by decide, by decide⟩ (only_row2 X4 w.heap.size D), HA4.out.2.2, below_row HB4.out _⟩)
      clear hts
      go_wp2_with (first | (refine wpList_load_row_g (by rfl) 33 (.tmp 4) rfl X2.heap.size rfl 33 D (0, 0) _ hrow4 Tryz.underlying33 rfl hszd ?_) | (refine wpList_store_row rfl 33 (.tmp 2) (.tmp 23) rfl w.heap.size D rfl rfl 33 _ hrw hszd hzd honed ?_))
      refine bodyPost_ret (results_cell_tmp Tryz.results21 _ _ w.heap.size 33 D (0, 0) _ (by rfl) (setRow_heap _ _ _ _ _ _ hrw) Tryz.underlying33 rfl hszd) rfl ?_
      exact HFIN.out
    · have HNE := Lib.hid (show ¬ actT a.con = s from fun q => hq (HEQ.out.2 q))
      have hbq : (T1.toList == S1.toList) = false := beq_eq_false_iff_ne.2 hq
      go_wp2_with (first | (refine wpList_build_to rfl 33 #[] rfl ZA (by rw [Array.toList_map]; exact hbt) ?_) | (refine wpList_store_row rfl 33 (.tmp 2) (.tmp 22) rfl w.heap.size ZA rfl rfl 33 _ hrw hszz rfl honez ?_))
      refine bodyPost_ret (results_cell_tmp Tryz.results21 _ _ w.heap.size 33 ZA (0, 0) _ (by rfl) (setRow_heap _ _ _ _ _ _ hrw) Tryz.underlying33 rfl hszz) rfl ?_
      exact .inr ⟨.inr (fun b hb hbo q => HNE.out (by rw [HNO.out b hb hbo q, q])), by rw [HZV.out]; rfl, below_row HB4.out _⟩
  · have HLN := Lib.hid hlen
    clear hok hlen
    go_wp2_with (first | (refine wpList_build_to rfl 33 #[] rfl ZA (by rw [Array.toList_map]; exact hbt) ?_) | (refine wpList_store_row rfl 33 (.tmp 2) (.tmp 22) rfl w.heap.size ZA rfl rfl 33 _ hrw hszz rfl honez ?_))
    refine bodyPost_ret (results_cell_tmp Tryz.results21 _ _ w.heap.size 33 ZA (0, 0) _ (by rfl) (setRow_heap _ _ _ _ _ _ hrw) Tryz.underlying33 rfl hszz) rfl ?_
    exact .inr ⟨.inr (fun b hb hbo q => by have h := HLN.out; rw [HNO.out b hb hbo q, ← q] at h; have := HS.out; omega), by rw [HZV.out]; rfl, below_row HB4.out _⟩
  · have HNK := Lib.hid hok
    clear hok
    go_wp2_with (first | (refine wpList_build_to rfl 33 #[] rfl ZA (by rw [Array.toList_map]; exact hbt) ?_) | (refine wpList_store_row rfl 33 (.tmp 2) (.tmp 22) rfl w.heap.size ZA rfl rfl 33 _ hrw hszz rfl honez ?_))
    refine bodyPost_ret (results_cell_tmp Tryz.results21 _ _ w.heap.size 33 ZA (0, 0) _ (by rfl) (setRow_heap _ _ _ _ _ _ hrw) Tryz.underlying33 rfl hszz) rfl ?_
    exact .inr ⟨.inr (fun b hb hbo q => HNK.out (by rw [HNO.out b hb hbo q]; exact hbo)), by rw [HZV.out]; rfl, below_row HB4.out _⟩
end
section
open Go.RowKit Go.Maps

/-- what FewAct has counted behind k sources. -/
def fewZ (a : ActM) (k : Nat) : Nat := a.groups.length + ((a.srcs.take k).map (fun s => s.nodes.length + 1)).sum
theorem fewZ_next {a : ActM} {k : Nat} {s : SrcM} (h : a.srcs[k]? = some s) : fewZ a (k + 1) = fewZ a k + 1 + s.nodes.length := by
  unfold fewZ
  rw [take_snoc h, List.map_append, List.sum_append]
  simp
  omega
theorem fewZ_all (a : ActM) : fewZ a a.srcs.length = actSize a.con := by
  unfold fewZ actSize
  rw [List.take_length]
  show _ = a.groups.length + ((a.srcs.map SrcM.con).map (fun s => s.nodes.length + 1)).sum
  rw [List.map_map]
  rfl
set_option maxRecDepth 100000 in
set_option maxHeartbeats 4000000 in
theorem fewAct_any (a : ActM) (w : World) (hat : ActAt w w.heap.size a) (wf : ActWf 1048576 a) : Calls Tryz.prog 16 #[actV a] w fun e w' => (∃ b, e = .returned (.bool b) ∧ (b = true → actSize a.con ≤ 200)) ∧ Below w.heap.size w w' := by
  obtain ⟨C, hC⟩ : ∃ C, C = (actCs a).toArray := ⟨_, rfl⟩
  have hv : actV a = .agg C := by rw [hC]; rfl
  obtain ⟨W1, hW1⟩ : ∃ W1, W1 = w.alloc (.cells C 33) := ⟨_, rfl⟩
  have hrow := new_obj w (.cells C 33)
  have hb1 : Below w.heap.size w W1 := by rw [hW1]; exact below_new _ _
  have hlt1 : w.heap.size < W1.heap.size := by rw [hW1]; simp
  have HC := Lib.hid (show ∀ (j : Nat) (u : Value), (actCs a)[j]? = some u → W1.cell? ⟨w.heap.size, j, none⟩ = some u from fun j u hj => by
    rw [hW1, Lib.cell_of_heap hrow, hC]
    simpa using hj)
  obtain ⟨m, hm⟩ : ∃ m, m = a.srcs.length := ⟨_, rfl⟩
  have HM := Lib.hid hm
  obtain ⟨gl, hgl⟩ : ∃ g, g = a.groups.length := ⟨_, rfl⟩
  have HG := Lib.hid hgl
  have hp6 := HC.out 6 (.slice a.sA a.srcs.length a.sc) rfl
  have c7 : C[7]? = some (.slice a.gA a.groups.length a.gc) := by rw [hC]; rfl
  rw [← hm] at hp6
  rw [← hgl] at c7
  have hgb : gl ≤ 1048576 := by rw [hgl]; exact wf.glen
  have hmb : m ≤ 1048576 := by rw [hm]; exact wf.slen
  have HWF := Lib.hid (And.intro hb1 (And.intro (hat.srcs.below hb1) wf))
  rw [hv]
  clear hC hv hrow hb1 hlt1 HC hat wf hm hgl
  go_enter Tryz.func16, Tryz.ntmps16
  go_wp2_with fail
  rw [← hW1]
  clear hW1 c7
  go_loopw [3, 4] (fun nv iv X => ∃ (k z : Nat), k ≤ m ∧ iv = .int .i64 k ∧ nv = .int .i64 z ∧ z = fewZ a k ∧ z ≤ 1048576 ∧ X = W1) (fun _ iv _ => m - (intOf iv).toNat)
  case atStart => exact ⟨0, gl, Nat.zero_le _, rfl, rfl, by unfold fewZ; rw [HG.out]; simp, hgb, rfl⟩
  case round =>
    obtain ⟨k, z, hk, rfl, rfl, hz, hzb, hX⟩ := hrel
    subst hX
    have HZ := Lib.hid hz
    clear hz
    by_cases hlt : k < m
    · have hlt' : (k : Int) < (m : Int) := by omega
      obtain ⟨s, hs⟩ : ∃ s, a.srcs[k]? = some s := ⟨a.srcs[k]'(by have := HM.out; omega), by simp⟩
      obtain ⟨ab, ao, hA, hab, x0, x1⟩ := src_at HWF.out.2.1.row hs
      have hsl : s.nodes.length ≤ 1048576 := (HWF.out.2.2.srcs s (List.mem_of_getElem? hs)).len
      have HN := Lib.hid (show z + 1 + s.nodes.length = fewZ a (k + 1) by rw [fewZ_next hs, HZ.out])
      obtain ⟨l, hl⟩ : ∃ l, l = s.nodes.length := ⟨_, rfl⟩
      rw [← hl] at hsl HN x1
      rw [hA] at hp6
      have w1 : IntKind.i64.wrap ((z : Int) + 1) = (z : Int) + 1 := IntWalk.i64_in _ (by omega)
      have w2 : IntKind.i64.wrap ((z : Int) + 1 + (l : Int)) = (z : Int) + 1 + (l : Int) := IntWalk.i64_in _ (by omega)
      clear hs hab hl hA
      by_cases hbig : 200 < z + 1 + l
      · have d1 : decide ((200 : Int) < (z : Int) + 1 + (l : Int)) = true := decide_eq_true (by omega)
        clear hbig
        go_wp2_with fail
        go_ret
        exact ⟨⟨false, rfl, fun h => by cases h⟩, HWF.out.1⟩
      · have d1 : decide ((200 : Int) < (z : Int) + 1 + (l : Int)) = false := decide_eq_false (by omega)
        have hzn : z + 1 + l ≤ 200 := by omega
        clear hbig
        go_wp2_with fail
        go_roundw
        case rel => exact ⟨k + 1, z + 1 + l, by omega, by go_num, by go_num, HN.out, by omega, by first | rfl | trivial⟩
        case measure => simp [intOf]; omega
    · obtain rfl : k = m := by omega
      have HF := Lib.hid (show z = actSize a.con by rw [HZ.out, HM.out, fewZ_all])
      go_wp2_with fail
      go_ret
      refine ⟨⟨decide ((z : Int) ≤ 200), rfl, fun h => ?_⟩, HWF.out.1⟩
      have := of_decide_eq_true h
      have := HF.out
      omega
end
section
open Go.RowKit Go.Maps
open Go.Lib (itoa)

set_option maxRecDepth 100000 in
set_option maxHeartbeats 4000000 in
theorem fmtAct_any (a : ActM) (w : World) (hr : Ready w) (hat : ActAt w w.heap.size a) (hl : ActL a) (hR : ActR a.con) (hsz0 : actSize a.con ≤ 100000) : Calls Tryz.prog 17 #[actV a] w fun e w' => FmtR (ActOk a.con) (actT a.con) e ∧ Below w.heap.size w w' := by
  have HA := Lib.hid (And.intro hr (And.intro hat (And.intro hl (And.intro hR hsz0))))
  obtain ⟨C, hC⟩ : ∃ C, C = (actCs a).toArray := ⟨_, rfl⟩
  have hv : actV a = .agg C := by rw [hC]; rfl
  have hsz : (Tryz.prog.info? 33).map (·.size) = some C.size := by rw [hC]; kernel_rfl
  have HV := Lib.hid hv
  obtain ⟨W1, hW1⟩ : ∃ W1, W1 = w.alloc (.cells C 33) := ⟨_, rfl⟩
  have hrow := new_obj w (.cells C 33)
  have HB1 := Lib.hid (show Below w.heap.size w W1 by rw [hW1]; exact (Below.refl _ _).alloc (Nat.le_refl _) _)
  have HR1 := Lib.hid (show W1.heap[w.heap.size]? = some (.cells C 33 (0, 0)) by rw [hW1]; exact hrow)
  have HVA := Lib.hid (vAct_any a W1 (hat.next HB1.out) hl)
  rw [hv] at HVA ⊢
  obtain ⟨Q, hQ⟩ : ∃ Q : Prop, Q = ActOk a.con := ⟨_, rfl⟩
  have HQ := Lib.hid hQ
  rw [← hQ] at HVA ⊢
  clear hr hat hl hC hv hQ
  go_enter Tryz.func17, Tryz.ntmps17
  go_wp2_with (refine wpList_load_row_g (by rfl) 33 (.tmp 1) rfl w.heap.size rfl 33 C (0, 0) _ hrow Tryz.underlying33 rfl hsz ?_)
  rw [← hW1]
  clear hrow
  by_cases hq : Q
  rotate_left
  · rw [tb_false hq] at HVA
    have HN := Lib.hid hq
    clear hq hW1
    refine HVA.out.mono ?_
    rintro e W2 ⟨rfl, hb⟩
    go_wp2_with fail
    go_ret2
    exact ⟨.inr (.inr ⟨HN.out, rfl⟩), HB1.out.trans (hb.mono HB1.out.size)⟩
  rw [tb_true hq] at HVA
  have HY := Lib.hid hq
  clear hq hW1
  refine HVA.out.mono ?_
  rintro e W2 ⟨rfl, hb⟩
  have HB2 := Lib.hid (show Below w.heap.size w W2 from HB1.out.trans (hb.mono HB1.out.size))
  have HFB := Lib.hid (FB.start WT W2)
  obtain ⟨W3, hW3⟩ : ∃ W3, W3 = W2.alloc (.cells #[.pointer none, .slice none 0 0] WT) := ⟨_, rfl⟩
  have HB3 := Lib.hid (show Below W2.heap.size W2 W3 by rw [hW3]; exact (Below.refl _ _).alloc (Nat.le_refl _) _)
  have hlt2 : w.heap.size < W2.heap.size := Nat.lt_of_lt_of_le (Array.getElem?_eq_some_iff.1 HR1.out).1 hb.size
  have hrow3 : (W2.alloc (.cells #[.pointer none, .slice none 0 0] WT)).heap[w.heap.size]? = some (.cells C 33 (0, 0)) := by
    rw [← hW3]
    exact (HB3.out.block w.heap.size hlt2).trans ((hb.block w.heap.size (Array.getElem?_eq_some_iff.1 HR1.out).1).trans HR1.out)
  rw [← hW3] at HFB
  have HE := Lib.hid (action_any (HA.out.1.kept HB2.out HA.out.1.room) HFB.out a ((HA.out.2.1.below HB2.out).more HB2.out.size |>.below HB3.out) HA.out.2.2.2.1 HA.out.2.2.2.2 (by simp))
  rw [HV.out] at HE
  clear hb
  go_wp2_with (refine wpList_load_row_g (by rfl) 33 (.tmp 1) rfl w.heap.size rfl 33 C (0, 0) _ hrow3 Tryz.underlying33 rfl hsz ?_)
  rw [← hW3]
  clear hrow3 hW3 hlt2
  refine HE.out.mono ?_
  rintro e W4 ⟨rfl, h1, h2, h3⟩
  have HW4 := Lib.hid (And.intro h2 h3)
  have e1 : addWs [] (actW a.con) = actT a.con := addWs_nil (by have := (HQ.out ▸ HY.out : ActOk a.con).1; exact this) _
  rw [e1] at h1
  have HTX := Lib.hid (text_any h1 (by
    have h0 : actN a.con.kind ≠ [] := (HQ.out ▸ HY.out : ActOk a.con).1
    show lineW (actN a.con.kind :: _) ≠ []
    rw [lineW]
    intro q
    exact h0 (List.append_eq_nil_iff.1 q).1))
  clear h1 h2 h3 e1
  go_wp2_with fail
  refine HTX.out.mono ?_
  rintro e W5 ⟨h1, h2⟩
  have HB5 := Lib.hid (show Below w.heap.size w W5 from HB2.out.trans ((((HB3.out).trans HW4.out.2).trans h2).mono HB2.out.size))
  clear h2
  rcases h1 with ⟨h1, rfl⟩ | ⟨h1, rfl⟩
  · have H1 := Lib.hid h1
    clear h1
    go_wp2_with fail
    go_ret2
    exact ⟨.inl ⟨HY.out, H1.out, rfl⟩, HB5.out⟩
  · have H1 := Lib.hid h1
    clear h1
    go_wp2_with fail
    go_ret2
    exact ⟨.inr (.inl ⟨HY.out, H1.out, rfl⟩), HB5.out⟩
end
section
open Go.RowKit Go.Maps
open Go.Lib (itoa)

theorem EvO.next {Y Z : World} {base : Nat} {x : EvM} (h : EvO Y base x) (hb : Below Y.heap.size Y Z) : EvO Z base x := ⟨h.act.next hb, own_next h.body hb, h.nob⟩
theorem EvO.base {Y : World} {base base' : Nat} {x : EvM} (h : EvO Y base x) (hb : base' ≤ base) : EvO Y base' x := ⟨h.act.base hb, own_base h.body hb, h.nob⟩
theorem EvO.at {Y : World} {base : Nat} {x : EvM} (h : EvO Y base x) : EvAt Y Y.heap.size x := by
  obtain ⟨A, c, e, hs⟩ := OwnV.sl h.body
  injection e with e1 _ _
  subst e1
  obtain ⟨n1, n2, n3⟩ := h.nob
  exact ⟨hs, h.act.at, by rw [n2]; exact Sl.empty⟩
theorem EvBd.r {e : EvM} (h : EvBd e) : EvR e.con :=
  ⟨h.kind, h.tick, h.who, h.call, h.epoch, h.n, h.eterm, h.ekind, Nat.le_trans h.body (by decide), h.ord, h.sta, h.act.r⟩
/-- what ParseEvent returns. -/
def RetPe (s : Wd) (w : World) (e : Ending) (w' : World) : Prop :=
  (∃ a : EvM, EvOk a.con ∧ VEv a.con ∧ s = evT a.con ∧ s.length ≤ 65536 ∧ e = .returned (.tuple #[evV a, .int .i64 0]) ∧ EvO w' w.heap.size a ∧ EvBd a ∧ Below w.heap.size w w') ∨
  ((65536 < s.length ∨ ∀ b, VEv b → EvOk b → s ≠ evT b) ∧ e = .returned (.tuple #[evV (EvM.zero 0 0), .int .i64 2]) ∧ Below w.heap.size w w')
set_option maxRecDepth 100000 in
set_option maxHeartbeats 16000000 in
theorem parseEv_any (s : Wd) (w : World) (hr : Ready w) : Calls Tryz.prog 9 #[.string (bs s)] w (RetPe s w) := by
  have hb0 : Below w.heap.size w (w.alloc (.cells #[.int .i64 0, .int .i64 0, .int .i64 0, .int .i64 0, .int .i64 0, .int .i64 0, .int .i64 0, .int .i64 0, .slice none 0 0, .int .i64 0, .int .i64 0, .int .i64 0, .int .i64 0, .int .i64 0, .int .i64 0, .int .i64 0, .int .i64 0, .int .i64 0, .int .i64 0, .int .i64 0, .int .i64 0, .int .i64 0, .int .i64 0, .int .i64 0, .int .i64 0, .slice none 0 0, .slice none 0 0, .slice none 0 0] 35)) := (Below.refl _ _).alloc (Nat.le_refl _) _
  have hn0 := new_obj w (.cells #[.int .i64 0, .int .i64 0, .int .i64 0, .int .i64 0, .int .i64 0, .int .i64 0, .int .i64 0, .int .i64 0, .slice none 0 0, .int .i64 0, .int .i64 0, .int .i64 0, .int .i64 0, .int .i64 0, .int .i64 0, .int .i64 0, .int .i64 0, .int .i64 0, .int .i64 0, .int .i64 0, .int .i64 0, .int .i64 0, .int .i64 0, .int .i64 0, .int .i64 0, .slice none 0 0, .slice none 0 0, .slice none 0 0] 35)
  have hs0 : (w.alloc (.cells #[.int .i64 0, .int .i64 0, .int .i64 0, .int .i64 0, .int .i64 0, .int .i64 0, .int .i64 0, .int .i64 0, .slice none 0 0, .int .i64 0, .int .i64 0, .int .i64 0, .int .i64 0, .int .i64 0, .int .i64 0, .int .i64 0, .int .i64 0, .int .i64 0, .int .i64 0, .int .i64 0, .int .i64 0, .int .i64 0, .int .i64 0, .int .i64 0, .int .i64 0, .slice none 0 0, .slice none 0 0, .slice none 0 0] 35)).heap.size = w.heap.size + 1 := by simp
  obtain ⟨ZA, hZA⟩ : ∃ ZA : Array Value, ZA = #[.int .i64 0, .int .i64 0, .int .i64 0, .int .i64 0, .int .i64 0, .int .i64 0, .int .i64 0, .int .i64 0, .slice none 0 0, .int .i64 0, .int .i64 0, .int .i64 0, .int .i64 0, .int .i64 0, .int .i64 0, .int .i64 0, .int .i64 0, .int .i64 0, .int .i64 0, .int .i64 0, .int .i64 0, .int .i64 0, .int .i64 0, .int .i64 0, .int .i64 0, .slice none 0 0, .slice none 0 0, .slice none 0 0] := ⟨_, rfl⟩
  have HZV := Lib.hid (show evV (EvM.zero 0 0) = .agg ZA by rw [hZA]; rfl)
  have hbt : Tryz.prog.built 35 [] = some ZA := by rw [hZA]; rfl
  have hszz : (Tryz.prog.info? 35).map (·.size) = some ZA.size := by rw [hZA]; exact ev_size
  have honez : ZA.all (·.oneCell') = true := by rw [hZA]; exact evCs_one (EvM.zero 0 0)
  obtain ⟨X0, hX0⟩ : ∃ X0, X0 = w.alloc (.cells #[.int .i64 0, .int .i64 0, .int .i64 0, .int .i64 0, .int .i64 0, .int .i64 0, .int .i64 0, .int .i64 0, .slice none 0 0, .int .i64 0, .int .i64 0, .int .i64 0, .int .i64 0, .int .i64 0, .int .i64 0, .int .i64 0, .int .i64 0, .int .i64 0, .int .i64 0, .int .i64 0, .int .i64 0, .int .i64 0, .int .i64 0, .int .i64 0, .int .i64 0, .slice none 0 0, .slice none 0 0, .slice none 0 0] 35) := ⟨_, rfl⟩
  rw [← hX0] at hb0 hn0 hs0
  rw [← hZA] at hn0
  have HZN := Lib.hid (show ∀ a : EvM, ZA.size = (evCs a).toArray.size by rw [hZA]; exact fun _ => rfl)
  have HB0 := Lib.hid (And.intro hb0 (And.intro hn0 hr))
  by_cases hs : s.length ≤ 65536
  rotate_left
  · have d0 := d65_yes hs
    have HS := Lib.hid hs
    clear hs hr hb0 hs0 hZA
    go_enter Tryz.func9, Tryz.ntmps9
    go_wp2_with (first | (rw [← hX0]; refine wpList_build_to rfl 35 #[] rfl ZA (by rw [Array.toList_map]; exact hbt) ?_) | (refine wpList_store_row rfl 35 (.tmp 2) (.tmp 9) rfl w.heap.size ZA rfl rfl 35 _ hn0 hszz rfl honez ?_))
    refine bodyPost_ret (results_cell_tmp Tryz.results9 _ _ w.heap.size 35 ZA (0, 0) _ (by rfl) (setRow_heap _ _ _ _ _ _ (new_obj w _)) Tryz.underlying35 rfl hszz) rfl ?_
    exact .inr ⟨.inl (by have := HS.out; omega), by rw [HZV.out]; rfl, below_row (below_new _ _) _⟩
  have d0 := d65_no hs
  have HS := Lib.hid (And.intro hs hr)
  have hr0 := hr.below hb0
  have HSP := Lib.hid (split_any s hs X0 hr0)
  have HRS := Lib.hid (rd_start X0 s hs)
  obtain ⟨n, hn⟩ : ∃ n, n = (wordsL s).length := ⟨_, rfl⟩
  obtain ⟨X1, hX1⟩ : ∃ X1, X1 = X0.alloc (.cells ((wordsL s).map wdV).toArray 9) := ⟨_, rfl⟩
  have hb1 : Below X0.heap.size X0 X1 := by rw [hX1]; exact below_new _ _
  have hs1 : X1.heap.size = X0.heap.size + 1 := by rw [hX1]; simp
  have hb2 : Below X1.heap.size X1 (X1.alloc (.cells #[.slice (some ⟨X0.heap.size, 0, none⟩) n n, .bool false] RT)) := below_new _ _
  obtain ⟨X2, hX2⟩ : ∃ X2, X2 = X1.alloc (.cells #[.slice (some ⟨X0.heap.size, 0, none⟩) n n, .bool false] RT) := ⟨_, rfl⟩
  have hs2 : X2.heap.size = X1.heap.size + 1 := by rw [hX2]; simp
  rw [← hX1, ← hn] at HSP HRS
  rw [← hX2] at hb2 HRS
  rw [← hs1] at HRS
  obtain ⟨rb, hrb⟩ : ∃ rb, rb = X1.heap.size := ⟨_, rfl⟩
  have hB2 : Below w.heap.size w X2 := hb0.trans ((hb1.mono hb0.size).trans (hb2.mono (Nat.le_trans hb0.size hb1.size)))
  have HRBX := Lib.hid (show rb < X2.heap.size by omega)
  have HB2 := Lib.hid (And.intro hB2 (And.intro (((hb1.trans (hb2.mono hb1.size)).block w.heap.size (by omega)).trans hn0) (show w.heap.size < rb by omega)))
  have hgr : Tryz.prog.globals.size ≤ rb := Nat.le_trans hr.room (by omega)
  rw [← hrb] at HRS
  have HRD := Lib.hid (revent_any rb (some (wordsL s)) X2 HRS.out (hr.below hB2) hgr)
  have HS2 := Lib.hid hs2
  clear hs hr hr0 hb0 hb1 hb2 hB2 hn hgr hs0 hs1 hs2 hZA
  go_enter Tryz.func9, Tryz.ntmps9
  go_wp2_with fail
  rw [← hX0]
  refine HSP.out.mono ?_
  rintro e Xn ⟨rfl, hXn⟩
  rw [hXn]
  clear hXn Xn hX0 hX1
  go_wp2_with fail
  rw [← hX2, ← hrb]
  clear hX2 hrb
  refine HRD.out.mono ?_
  rintro e Y ⟨a, st', rfl, h1, ho, hown, hbd, hrd⟩
  obtain ⟨D, hD⟩ : ∃ D, D = (evCs a).toArray := ⟨_, rfl⟩
  have hv : evV a = .agg D := by rw [hD]; rfl
  have hszd : (Tryz.prog.info? 35).map (·.size) = some D.size := by rw [hD]; exact ev_size
  have honed : D.all (·.oneCell') = true := by rw [hD]; exact evCs_one a
  have hold : (#[.int .i64 0, .int .i64 0, .int .i64 0, .int .i64 0, .int .i64 0, .int .i64 0, .int .i64 0, .int .i64 0, .slice none 0 0, .int .i64 0, .int .i64 0, .int .i64 0, .int .i64 0, .int .i64 0, .int .i64 0, .int .i64 0, .int .i64 0, .int .i64 0, .int .i64 0, .int .i64 0, .int .i64 0, .int .i64 0, .int .i64 0, .int .i64 0, .int .i64 0, .slice none 0 0, .slice none 0 0, .slice none 0 0] : Array Value).size = D.size := by rw [hD]; rfl
  have hoy := new_obj Y (.cells #[.int .i64 0, .int .i64 0, .int .i64 0, .int .i64 0, .int .i64 0, .int .i64 0, .int .i64 0, .int .i64 0, .slice none 0 0, .int .i64 0, .int .i64 0, .int .i64 0, .int .i64 0, .int .i64 0, .int .i64 0, .int .i64 0, .int .i64 0, .int .i64 0, .int .i64 0, .int .i64 0, .int .i64 0, .int .i64 0, .int .i64 0, .int .i64 0, .int .i64 0, .slice none 0 0, .slice none 0 0, .slice none 0 0] 35)
  have HD := Lib.hid (And.intro hD hv)
  have hYB : Below w.heap.size w Y := HB2.out.1.trans ((ho.low (by have := HRBX.out; omega)).mono (Nat.le_of_lt HB2.out.2.2))
  have hb5 := below_new Y (.cells D 35)
  have HQ := Lib.hid (And.intro (h1.next hb5) (And.intro hown (And.intro hbd hrd)))
  have HY := Lib.hid (And.intro hYB (And.intro (((ho.low (by have := HRBX.out; omega)).block w.heap.size HB2.out.2.2).trans HB2.out.2.1) ho.size))
  rw [hv]
  clear h1 ho hown hbd hrd hD hv hYB
  go_wp2_with (refine wpList_store_row rfl 35 (.tmp 5) (.tmp 13) rfl Y.heap.size D rfl rfl 35 _ hoy hszd hold honed ?_)
  rw [World.setRow_alloc_new]
  have hrow5 := new_obj Y (.cells D 35)
  obtain ⟨X5, hX5⟩ : ∃ X5, X5 = Y.alloc (.cells D 35) := ⟨_, rfl⟩
  rw [← hX5] at hb5 HQ hrow5 ⊢
  have HFN := Lib.hid (rfin_any rb st' X5 HQ.out.1)
  have HB5 := Lib.hid (And.intro (HY.out.1.trans (hb5.mono HY.out.1.size)) (And.intro hb5 ((hb5.block w.heap.size (by have := HB2.out.2.2; have := HY.out.2.2; have := HRBX.out; omega)).trans HY.out.2.1)))
  have hrw5 := HB5.out.2.2
  have HNO : Hid (¬ (st' = some [] ∧ EvOk a.con) → ∀ b, VEv b → EvOk b → s ≠ evT b) := Lib.hid (fun q b hb hbo => ev_leave HQ.out.2.2.2 q b hb hbo)
  have HYES : Hid (∀ X6, Below X5.heap.size X5 X6 → st' = some [] → EvOk a.con → RetPe s w (.returned (.tuple #[.agg D, .int .i64 0])) (X6.setRow w.heap.size D)) := Lib.hid (fun X6 hb6 q1 q2 => by
    obtain ⟨t1, t2⟩ := ev_take HQ.out.2.2.2 q1 q2
    have ho6 := only_row2 X6 w.heap.size D
    have hbk : Blk X6 w.heap.size 35 ZA.toList := by
      show X6.heap[w.heap.size]? = _
      rw [hb6.block w.heap.size (Array.getElem?_eq_some_iff.1 HB5.out.2.2).1, HB5.out.2.2]
    have hown2 := ((HQ.out.2.1.next HB5.out.2.1).next hb6).base HB2.out.1.size
    exact .inl ⟨a, q2, t1, t2, HS.out.1, by rw [HD.out.2], (hown2.keep hbk ⟨by decide, by decide, by decide⟩ ho6), HQ.out.2.2.1, below_row (HB5.out.1.trans (hb6.mono HB5.out.1.size)) _⟩)
  clear hoy hold honed hX5
  by_cases hf : st' = some []
  rotate_left
  · rw [tb_false hf] at HFN
    have HF := Lib.hid hf
    clear hf hb5 hrow5
    go_wp2_with fail
    refine HFN.out.mono ?_
    rintro e Xn ⟨rfl, hXn⟩
    rw [hXn]
    clear hXn Xn
    go_wp2_with (first | (refine wpList_build_to rfl 35 #[] rfl ZA (by rw [Array.toList_map]; exact hbt) ?_) | (refine wpList_store_row rfl 35 (.tmp 2) (.tmp 21) rfl w.heap.size ZA rfl rfl 35 _ hrw5 hszz rfl honez ?_))
    refine bodyPost_ret (results_cell_tmp Tryz.results9 _ _ w.heap.size 35 ZA (0, 0) _ (by rfl) (setRow_heap _ _ _ _ _ _ hrw5) Tryz.underlying35 rfl hszz) rfl ?_
    exact .inr ⟨.inr (HNO.out (fun q => HF.out q.1)), by rw [HZV.out]; rfl, below_row HB5.out.1 _⟩
  rw [tb_true hf] at HFN
  have HF := Lib.hid hf
  have HV := Lib.hid (vEv_any a X5 (HQ.out.2.1.next HB5.out.2.1).at HQ.out.2.2.1.act.l)
  rw [HD.out.2] at HV
  clear hf hb5
  go_wp2_with fail
  refine HFN.out.mono ?_
  rintro e Xn ⟨rfl, hXn⟩
  rw [hXn]
  clear hXn Xn
  by_cases hok : EvOk a.con
  · rw [tb_true hok] at HV
    have HOK := Lib.hid hok
    clear hok
    go_wp2_with (refine wpList_load_row_g (by rfl) 35 (.tmp 5) rfl Y.heap.size rfl 35 D (0, 0) _ hrow5 Tryz.underlying35 rfl hszd ?_)
    refine HV.out.mono ?_
    rintro e X6 ⟨rfl, hb6⟩
    have HF6 := Lib.hid (HYES.out X6 hb6 HF.out HOK.out)
    have hrow6 := (hb6.block Y.heap.size (Array.getElem?_eq_some_iff.1 hrow5).1).trans hrow5
    have hrw6 := (hb6.block w.heap.size (Array.getElem?_eq_some_iff.1 hrw5).1).trans hrw5
    have honed : D.all (·.oneCell') = true := by rw [HD.out.1]; exact evCs_one a
    have hzd : ZA.size = D.size := by rw [HD.out.1]; exact HZN.out a
    clear hb6 hrow5 hrw5
    go_wp2_with (first | (refine wpList_load_row_g (by rfl) 35 (.tmp 5) rfl Y.heap.size rfl 35 D (0, 0) _ hrow6 Tryz.underlying35 rfl hszd ?_) | (refine wpList_store_row rfl 35 (.tmp 2) (.tmp 22) rfl w.heap.size D rfl rfl 35 _ hrw6 hszd hzd honed ?_))
    refine bodyPost_ret (results_cell_tmp Tryz.results9 _ _ w.heap.size 35 D (0, 0) _ (by rfl) (setRow_heap _ _ _ _ _ _ hrw6) Tryz.underlying35 rfl hszd) rfl ?_
    exact HF6.out
  · rw [tb_false hok] at HV
    have HOK := Lib.hid hok
    clear hok
    go_wp2_with (refine wpList_load_row_g (by rfl) 35 (.tmp 5) rfl Y.heap.size rfl 35 D (0, 0) _ hrow5 Tryz.underlying35 rfl hszd ?_)
    refine HV.out.mono ?_
    rintro e X6 ⟨rfl, hb6⟩
    have HB6 := Lib.hid (HB5.out.1.trans (hb6.mono HB5.out.1.size))
    have hrw6 := (hb6.block w.heap.size (Array.getElem?_eq_some_iff.1 hrw5).1).trans hrw5
    clear hb6 hrow5 hrw5
    go_wp2_with (first | (refine wpList_build_to rfl 35 #[] rfl ZA (by rw [Array.toList_map]; exact hbt) ?_) | (refine wpList_store_row rfl 35 (.tmp 2) (.tmp 21) rfl w.heap.size ZA rfl rfl 35 _ hrw6 hszz rfl honez ?_))
    refine bodyPost_ret (results_cell_tmp Tryz.results9 _ _ w.heap.size 35 ZA (0, 0) _ (by rfl) (setRow_heap _ _ _ _ _ _ hrw6) Tryz.underlying35 rfl hszz) rfl ?_
    exact .inr ⟨.inr (HNO.out (fun q => HOK.out q.2)), by rw [HZV.out]; rfl, below_row HB6.out _⟩
end
section
open Go.RowKit Go.Maps
open Go.Lib (itoa)

def wakeA : EvM := ⟨3, 9, 1, 7, 2, 0, 0, 0, none, 0, [], ord0, sta0, kindM 0, none, 0, []⟩
def wakeS : Wd := [57, 32, 111, 119, 110, 101, 114, 32, 55, 32, 49, 32, 50]
theorem wakeA_text : evT wakeA.con = wakeS := by decide +kernel
theorem wakeA_ok : EvOk wakeA.con := ⟨by decide, by decide, (fun h => absurd h (by decide)), rfl⟩
def wakeB : EvC := { ev0 with kind := 7, tick := 9, n := 4, eterm := 2, ekind := 2, ebody := [30, 18] }
def wakeT : Wd := [57, 32, 97, 112, 112, 108, 105, 101, 100, 32, 48, 32, 52, 32, 50, 32, 50, 32, 61, 49, 101, 49, 50]
theorem wakeB_text : evT wakeB = wakeT := by decide +kernel
theorem wakeB_ok : EvOk wakeB := ⟨by decide, by decide, (fun h => absurd h (by decide)), rfl⟩
theorem wakeB_v : VEv wakeB := by
  refine ⟨⟨by decide, by decide, rfl⟩, fun f hf => ?_⟩
  have hf : f ∈ [0, 3, 5] := hf
  simp only [List.mem_cons, List.mem_nil_iff, or_false] at hf
  rcases hf with rfl | rfl | rfl
  · show Is64 0; decide
  · show Is64 4; decide
  · show Is64 2 ∧ Is64 2; decide
theorem wakeA_r : EvR wakeA.con :=
  ⟨by decide, by decide, by decide, by decide, by decide, by decide, by decide, by decide, by decide, by decide, by decide, (bd_kind (k := 0) is64_0).r⟩
set_option maxRecDepth 100000 in
set_option maxHeartbeats 8000000 in
theorem wakes_any (w : World) (hr : Ready w) : Calls Tryz.prog 8 #[] w fun e w' => e = .returned (.bool true) ∧ Below w.heap.size w w' := by
  obtain ⟨C, hC⟩ : ∃ C, C = (evCs wakeA).toArray := ⟨_, rfl⟩
  have hv : evV wakeA = .agg C := by rw [hC]; rfl
  have hbt : Tryz.prog.built 35 [(0, .int .i64 3), (1, .int .i64 9), (3, .int .i64 7), (2, .int .i64 1), (4, .int .i64 2)] = some C := by rw [hC]; rfl
  have HF := Lib.hid (fmtEv_any wakeA w hr ⟨Sl.empty, ⟨SrcsAt.empty, Sl.empty⟩, Sl.empty⟩ ⟨by decide, (fun s hs => by cases hs), by decide⟩ wakeA_r (by decide) (by decide))
  rw [hv] at HF
  have HR := Lib.hid hr
  clear hC hv hr
  go_enter Tryz.func8, Tryz.ntmps8
  go_wp2_with (refine wpList_build_to rfl 35 #[(0, .const (.int .i64 3)), (1, .const (.int .i64 9)), (3, .const (.int .i64 7)), (2, .const (.int .i64 1)), (4, .const (.int .i64 2))] rfl C (by rw [Array.toList_map]; exact hbt) ?_)
  refine HF.out.mono ?_
  rintro e W1 ⟨hf, hb1⟩
  have he : e = .returned (.tuple #[.string ⟨#[57, 32, 111, 119, 110, 101, 114, 32, 55, 32, 49, 32, 50]⟩, .int .i64 0]) := by
    show e = .returned (.tuple #[.string (bs wakeS), .int .i64 0])
    rcases hf with ⟨_, _, h⟩ | ⟨_, h, _⟩ | ⟨h, _⟩
    · rw [h, wakeA_text]
    · rw [wakeA_text] at h
      exact absurd h (by decide)
    · exact absurd wakeA_ok h
  subst he
  have HP := Lib.hid (parseEv_any wakeT W1 (HR.out.below hb1))
  have HB1 := Lib.hid hb1
  clear hf hb1 hbt
  go_wp2_with fail
  refine HP.out.mono ?_
  rintro e W2 (⟨a, _, hva, hta, _, he, ho, _, hb2⟩ | ⟨hno, _⟩)
  rotate_left
  · rcases hno with h | h
    · exact absurd h (by decide)
    · exact absurd wakeB_text.symm (h wakeB wakeB_v wakeB_ok)
  have hab : a.con = wakeB := evT_inj hva wakeB_v (hta.symm.trans wakeB_text.symm)
  obtain ⟨D, hD⟩ : ∃ D, D = (evCs a).toArray := ⟨_, rfl⟩
  have hvd : evV a = .agg D := by rw [hD]; rfl
  rw [hvd] at he
  subst he
  have hb5 := below_new W2 (.cells D 35)
  have hn : a.n = 4 := congrArg EvC.n hab
  have ht : a.eterm = 2 := congrArg EvC.eterm hab
  have hbd : a.ebody = [30, 18] := congrArg EvC.ebody hab
  have c5 : D[5]? = some (.int .i64 4) := by rw [hD, ← hn]; rfl
  have c6 : D[6]? = some (.int .i64 2) := by rw [hD, ← ht]; rfl
  have c8 : D[8]? = some (.slice a.eA 2 a.ec) := by
    have h : D[8]? = some (.slice a.eA a.ebody.length a.ec) := by rw [hD]; rfl
    rwa [hbd] at h
  have hszd : (Tryz.prog.info? 35).map (·.size) = some D.size := by rw [hD]; exact ev_size
  have honed : D.all (·.oneCell') = true := by rw [hD]; exact evCs_one a
  have hat := ((ho.next hb5).at).body
  rw [hbd] at hat
  have hcv : (convert 23 9 (.slice a.eA 2 a.ec)).run Tryz.prog (W2.alloc (.cells D 35)) = .ok (.string ⟨#[30, 18]⟩) (W2.alloc (.cells D 35)) := bytes_str hat a.ec
  have HB5 := Lib.hid (show Below w.heap.size w (W2.alloc (.cells D 35)) from HB1.out.trans ((hb2.trans (hb5.mono hb2.size)).mono HB1.out.size))
  have hoy := new_obj W2 (.cells #[.int .i64 0, .int .i64 0, .int .i64 0, .int .i64 0, .int .i64 0, .int .i64 0, .int .i64 0, .int .i64 0, .slice none 0 0, .int .i64 0, .int .i64 0, .int .i64 0, .int .i64 0, .int .i64 0, .int .i64 0, .int .i64 0, .int .i64 0, .int .i64 0, .int .i64 0, .int .i64 0, .int .i64 0, .int .i64 0, .int .i64 0, .int .i64 0, .int .i64 0, .slice none 0 0, .slice none 0 0, .slice none 0 0] 35)
  have hold : (#[.int .i64 0, .int .i64 0, .int .i64 0, .int .i64 0, .int .i64 0, .int .i64 0, .int .i64 0, .int .i64 0, .slice none 0 0, .int .i64 0, .int .i64 0, .int .i64 0, .int .i64 0, .int .i64 0, .int .i64 0, .int .i64 0, .int .i64 0, .int .i64 0, .int .i64 0, .int .i64 0, .int .i64 0, .int .i64 0, .int .i64 0, .int .i64 0, .int .i64 0, .slice none 0 0, .slice none 0 0, .slice none 0 0] : Array Value).size = D.size := by rw [hD]; rfl
  have hwz := World.setRow_alloc_new W2 #[.int .i64 0, .int .i64 0, .int .i64 0, .int .i64 0, .int .i64 0, .int .i64 0, .int .i64 0, .int .i64 0, .slice none 0 0, .int .i64 0, .int .i64 0, .int .i64 0, .int .i64 0, .int .i64 0, .int .i64 0, .int .i64 0, .int .i64 0, .int .i64 0, .int .i64 0, .int .i64 0, .int .i64 0, .int .i64 0, .int .i64 0, .int .i64 0, .int .i64 0, .slice none 0 0, .slice none 0 0, .slice none 0 0] D 35
  have HD := Lib.hid (And.intro hszd (And.intro honed (And.intro hold hwz)))
  clear hD hvd hab hn ht hbd hva hta ho hb2 hb5 hat hszd honed hold hwz
  go_wp2_with (refine wpList_store_row rfl 35 (.tmp 3) (.tmp 12) rfl W2.heap.size D rfl rfl 35 _ hoy HD.out.1 HD.out.2.2.1 HD.out.2.1 ?_; rw [HD.out.2.2.2])
  go_ret
  exact ⟨rfl, HB5.out⟩
end
section
open Go.RowKit Go.Maps

theorem FmtR.two {ok : Prop} {t : Wd} {e : Ending} (h : FmtR ok t e) : (ok ∧ t.length ≤ 65536 ∧ e = .returned (.tuple #[.string (bs t), .int .i64 0])) ∨ ∃ c : Int, c ≠ 0 ∧ e = .returned (.tuple #[.string ⟨#[]⟩, .int .i64 c]) := by
  rcases h with h | ⟨_, _, h⟩ | ⟨_, h⟩
  · exact .inl h
  · exact .inr ⟨3, by decide, h⟩
  · exact .inr ⟨1, by decide, h⟩
theorem FmtR.same {ok : Prop} {t : Wd} {e e' : Ending} (h : FmtR ok t e) (h' : FmtR ok t e') : e' = e := by
  rcases h with ⟨a, b, h⟩ | ⟨a, b, h⟩ | ⟨a, h⟩
  · rcases h' with ⟨a', b', h'⟩ | ⟨a', b', h'⟩ | ⟨a', h'⟩
    · rw [h, h']
    · omega
    · exact absurd a a'
  · rcases h' with ⟨a', b', h'⟩ | ⟨a', b', h'⟩ | ⟨a', h'⟩
    · omega
    · rw [h, h']
    · exact absurd a a'
  · rcases h' with ⟨a', b', h'⟩ | ⟨a', b', h'⟩ | ⟨a', h'⟩
    · exact absurd a' a
    · exact absurd a' a
    · rw [h, h']
/-- what is known of an action that was read. -/
def ReadA (s : Wd) (a : ActM) (c : Int) : Prop := (c = 0 ∧ ActOk a.con ∧ VAct a.con ∧ s = actT a.con ∧ s.length ≤ 65536) ∨ (c = 2 ∧ a = kindM 0 ∧ (65536 < s.length ∨ ∀ b, VAct b → ActOk b → s ≠ actT b))
theorem retPa_uni {s : Wd} {w : World} {e : Ending} {w' : World} (h : RetPa s w e w') : ∃ (a : ActM) (c : Int), e = .returned (.tuple #[actV a, .int .i64 c]) ∧ ActAt w' w'.heap.size a ∧ ActL a ∧ Below w.heap.size w w' ∧ ReadA s a c := by
  rcases h with ⟨a, h1, h2, h3, h4, h5, h6, h7, h8⟩ | ⟨h1, h2, h3⟩
  · exact ⟨a, 0, h5, h6.at, h7.l, h8, .inl ⟨rfl, h1, h2, h3, h4⟩⟩
  · exact ⟨kindM 0, 2, h2, ⟨SrcsAt.empty, Sl.empty⟩, ⟨Nat.zero_le _, (fun s hs => by cases hs), Nat.zero_le _⟩, h3, .inr ⟨rfl, rfl, h1⟩⟩
theorem ReadA.same {s : Wd} {a b : ActM} {c d : Int} (h : ReadA s a c) (h' : ReadA s b d) : d = c ∧ a.con = b.con := by
  rcases h with ⟨h1, h2, h3, h4, h5⟩ | ⟨h1, h2, h3⟩
  · rcases h' with ⟨k1, k2, k3, k4, k5⟩ | ⟨k1, k2, k3⟩
    · exact ⟨k1.trans h1.symm, actT_inj h3 k3 (h4.symm.trans k4)⟩
    · rcases k3 with k3 | k3
      · omega
      · exact absurd h4 (k3 _ h3 h2)
  · rcases h' with ⟨k1, k2, k3, k4, k5⟩ | ⟨k1, k2, k3⟩
    · rcases h3 with h3 | h3
      · omega
      · exact absurd k4 (h3 _ k3 k2)
    · exact ⟨k1.trans h1.symm, by rw [h2, k2]⟩
theorem zero_size (a : ActM) : (#[.int .i64 0, .int .i64 0, .int .i64 0, .int .i64 0, .int .i64 0, .int .i64 0, .slice none 0 0, .slice none 0 0] : Array Value).size = (actCs a).toArray.size := rfl
set_option maxRecDepth 100000 in
set_option maxHeartbeats 16000000 in
theorem actFormat_any (w : World) (hr : Ready w) (a : ActM) (hat : ActAt w w.heap.size a) (wf : ActWf 1048576 a) (l : Wd) : Calls Tryz.prog 5 #[actV a, .string (bs l)] w fun e w' => e = .returned (.bool true) ∧ Below w.heap.size w w' := by
  obtain ⟨C, hC⟩ : ∃ C, C = (actCs a).toArray := ⟨_, rfl⟩
  have hv : actV a = .agg C := by rw [hC]; rfl
  have hsz : (Tryz.prog.info? 33).map (·.size) = some C.size := by rw [hC]; exact act_size
  obtain ⟨X0, hX0⟩ : ∃ X0, X0 = w.alloc (.cells C 33) := ⟨_, rfl⟩
  have hb0 : Below w.heap.size w X0 := by rw [hX0]; exact below_new _ _
  have hrow0 : X0.heap[w.heap.size]? = some (.cells C 33 (0, 0)) := by rw [hX0]; exact new_obj _ _
  have HROW := Lib.hid (show ∀ X : World, Below X0.heap.size X0 X → X.heap[w.heap.size]? = some (.cells C 33 (0, 0)) from fun X h => (h.block w.heap.size (Array.getElem?_eq_some_iff.1 hrow0).1).trans hrow0)
  have HAT := Lib.hid (show ∀ X : World, Below X0.heap.size X0 X → ActAt X X.heap.size a from fun X h => (hat.below (hb0.trans (h.mono hb0.size))).more (hb0.trans (h.mono hb0.size)).size)
  have HRD := Lib.hid (show ∀ X : World, Below X0.heap.size X0 X → Ready X from fun X h => hr.below (hb0.trans (h.mono hb0.size)))
  have HW := Lib.hid (And.intro wf hb0)
  have HVV := Lib.hid hv
  have HWK := Lib.hid (wakes_any X0 (HRD.out X0 (Below.refl _ _)))
  have hlsz : (bs l).size = l.length := bs_size l
  obtain ⟨s, hs⟩ : ∃ s, s = bs l := ⟨_, rfl⟩
  have HS := Lib.hid hs
  rw [← hs] at hlsz
  have HLS := Lib.hid hlsz
  rw [hv, ← hs]
  clear hC hv hb0 hrow0 hat wf hr hs hlsz
  go_enter Tryz.func5, Tryz.ntmps5
  go_wp2_with fail
  rw [← hX0]
  clear hX0
  refine HWK.out.mono ?_
  rintro e X1 ⟨rfl, hb⟩
  have HX1 := Lib.hid hb
  have HFA := Lib.hid (fewAct_any a X1 (HAT.out X1 hb) HW.out.1)
  rw [HVV.out] at HFA
  have hrow1 := HROW.out X1 hb
  clear hb HWK
  go_wp2_with (refine wpList_load_row_g (by rfl) 33 (.tmp 2) rfl w.heap.size rfl 33 C (0, 0) _ hrow1 Tryz.underlying33 rfl hsz ?_)
  refine HFA.out.mono ?_
  rintro e X2 ⟨⟨few, rfl, hfew⟩, hb⟩
  have HX2 := Lib.hid (HX1.out.trans (hb.mono HX1.out.size))
  clear hb HFA hrow1
  cases few with
  | false =>
    clear hfew
    go_wp2_with fail
    go_ret
    exact ⟨rfl, HW.out.2.trans (HX2.out.mono HW.out.2.size)⟩
  | true =>
  have HZ := Lib.hid (hfew rfl)
  clear hfew
  by_cases hlong : 600 < s.size
  · have d1 : decide ((600 : Int) < (s.size : Int)) = true := decide_eq_true (by omega)
    clear hlong
    go_wp2_with fail
    go_ret
    exact ⟨rfl, HW.out.2.trans (HX2.out.mono HW.out.2.size)⟩
  have d1 : decide ((600 : Int) < (s.size : Int)) = false := decide_eq_false (by omega)
  have HLL := Lib.hid (show l.length ≤ 65536 by have := HLS.out; omega)
  have HR := Lib.hid (HW.out.1.r (Nat.le_trans HZ.out (by decide)))
  have HL := Lib.hid (HW.out.1.l (by decide))
  have HF := Lib.hid (fmtAct_any a X2 (HRD.out X2 HX2.out) (HAT.out X2 HX2.out) HL.out HR.out (Nat.le_trans HZ.out (by decide)))
  rw [HVV.out] at HF
  have hrow2 := HROW.out X2 HX2.out
  clear hlong
  go_wp2_with (refine wpList_load_row_g (by rfl) 33 (.tmp 2) rfl w.heap.size rfl 33 C (0, 0) _ hrow2 Tryz.underlying33 rfl hsz ?_)
  refine HF.out.mono ?_
  rintro e X3 ⟨hf, hb⟩
  have HX3 := Lib.hid (HX2.out.trans (hb.mono HX2.out.size))
  have HA := Lib.hid (act51_any a X3 (HAT.out X3 HX3.out) HL.out HR.out (Nat.le_trans HZ.out (by decide)))
  rw [HVV.out] at HA
  have HFF := Lib.hid hf
  have hrow3 := HROW.out X3 HX3.out
  clear hb hrow2 HF hf
  rcases HFF.out.two with ⟨hok, hlen, rfl⟩ | ⟨cc, hcc, rfl⟩
  · have HOK := Lib.hid (And.intro hok hlen)
    obtain ⟨t, ht⟩ : ∃ t, t = actT a.con := ⟨_, rfl⟩
    rw [← ht] at HFF HA HOK ⊢
    have HT := Lib.hid ht
    obtain ⟨S1, hS1⟩ : ∃ S, S = bs t := ⟨_, rfl⟩
    rw [← hS1] at HFF ⊢
    have HS1 := Lib.hid hS1
    clear hok hlen ht hS1
    go_wp2_with (refine wpList_load_row_g (by rfl) 33 (.tmp 2) rfl w.heap.size rfl 33 C (0, 0) _ hrow3 Tryz.underlying33 rfl hsz ?_)
    refine HA.out.mono ?_
    rintro e X4 ⟨hf, hb⟩
    have HX4 := Lib.hid (HX3.out.trans (hb.mono HX3.out.size))
    have he := HFF.out.same hf
    subst he
    have HP1 := Lib.hid (parseAct_any t X4 (HRD.out X4 HX4.out))
    rw [← HS1.out] at HP1
    clear hb hf hrow3 HA
    go_wp2_with fail
    refine HP1.out.mono ?_
    rintro e X5 hret
    obtain ⟨b, c1, rfl, hatb, hlb, hb, hrd⟩ := retPa_uni hret
    have HX5 := Lib.hid (HX4.out.trans (hb.mono HX4.out.size))
    have hva : VAct a.con := HR.out.vact HOK.out.1
    obtain ⟨hc1, hcon⟩ : c1 = 0 ∧ a.con = b.con := by
      have h := ReadA.same (s := t) (a := a) (c := 0) (.inl ⟨rfl, HOK.out.1, hva, HT.out, HOK.out.2⟩) hrd
      exact h
    subst hc1
    obtain ⟨D, hD⟩ : ∃ D, D = (actCs b).toArray := ⟨_, rfl⟩
    have hvb : actV b = .agg D := by rw [hD]; rfl
    have hszd : (Tryz.prog.info? 33).map (·.size) = some D.size := by rw [hD]; exact act_size
    have honed : D.all (·.oneCell') = true := by rw [hD]; exact actCs_one b
    have holdd : (#[.int .i64 0, .int .i64 0, .int .i64 0, .int .i64 0, .int .i64 0, .int .i64 0, .slice none 0 0, .slice none 0 0] : Array Value).size = D.size := by rw [hD]; exact zero_size b
    have hoyd := new_obj X5 (.cells #[.int .i64 0, .int .i64 0, .int .i64 0, .int .i64 0, .int .i64 0, .int .i64 0, .slice none 0 0, .slice none 0 0] 33)
    have hsrd := World.setRow_alloc_new X5 #[.int .i64 0, .int .i64 0, .int .i64 0, .int .i64 0, .int .i64 0, .int .i64 0, .slice none 0 0, .slice none 0 0] D 33
    obtain ⟨X6, hX6⟩ : ∃ Z, Z = X5.alloc (.cells D 33) := ⟨_, rfl⟩
    have hb6 : Below X5.heap.size X5 X6 := by rw [hX6]; exact below_new _ _
    have hrwd : X6.heap[X5.heap.size]? = some (.cells D 33 (0, 0)) := by rw [hX6]; exact new_obj _ _
    have HX6 := Lib.hid (HX5.out.trans (hb6.mono HX5.out.size))
    have hrow6 := HROW.out X6 HX6.out
    have HSM := Lib.hid (sameAct_any a b X6 X6.heap.size X6.heap.size (HAT.out X6 HX6.out) (hatb.next hb6) (Nat.le_refl _) (Nat.le_refl _) HL.out.ns HL.out.nn HL.out.ng)
    rw [tb_true hcon, HVV.out, hvb] at HSM
    rw [← hX6] at hsrd
    rw [hvb]
    clear hret hatb hlb hb hrd hva hcon hD hvb hX6 hb6 HP1
    go_wp2_with (first | (refine wpList_store_row rfl 33 (.tmp 9) (.tmp 48) rfl X5.heap.size D rfl rfl 33 _ hoyd hszd holdd honed ?_; rw [hsrd]) | (refine wpList_load_row_g (by rfl) 33 (.tmp 9) rfl X5.heap.size rfl 33 D (0, 0) _ hrwd Tryz.underlying33 rfl hszd ?_) | (refine wpList_load_row_g (by rfl) 33 (.tmp 2) rfl w.heap.size rfl 33 C (0, 0) _ hrow6 Tryz.underlying33 rfl hsz ?_))
    clear hoyd hsrd holdd honed hrwd hrow6
    refine HSM.out.mono ?_
    rintro e X7 ⟨rfl, hb⟩
    have HX7 := Lib.hid (HX6.out.trans (hb.mono HX6.out.size))
    have HP := Lib.hid (parseAct_any l X7 (HRD.out X7 HX7.out))
    rw [← HS.out] at HP
    clear hb HSM
    go_wp2_with fail
    refine HP.out.mono ?_
    rintro e Y1 hret
    obtain ⟨a1, c1, rfl, hat1, hl1, hb1, hrd1⟩ := retPa_uni hret
    have HY1 := Lib.hid (HX7.out.trans (hb1.mono HX7.out.size))
    have HA1 := Lib.hid (And.intro hat1 (And.intro hl1 hrd1))
    obtain ⟨D1, hD1⟩ : ∃ D, D = (actCs a1).toArray := ⟨_, rfl⟩
    have hv1 : actV a1 = .agg D1 := by rw [hD1]; rfl
    have hsz1 : (Tryz.prog.info? 33).map (·.size) = some D1.size := by rw [hD1]; exact act_size
    have hone1 : D1.all (·.oneCell') = true := by rw [hD1]; exact actCs_one a1
    have hold1 : (#[.int .i64 0, .int .i64 0, .int .i64 0, .int .i64 0, .int .i64 0, .int .i64 0, .slice none 0 0, .slice none 0 0] : Array Value).size = D1.size := by rw [hD1]; exact zero_size a1
    have hoy1 := new_obj Y1 (.cells #[.int .i64 0, .int .i64 0, .int .i64 0, .int .i64 0, .int .i64 0, .int .i64 0, .slice none 0 0, .slice none 0 0] 33)
    have hsr1 := World.setRow_alloc_new Y1 #[.int .i64 0, .int .i64 0, .int .i64 0, .int .i64 0, .int .i64 0, .int .i64 0, .slice none 0 0, .slice none 0 0] D1 33
    obtain ⟨Z1, hZ1⟩ : ∃ Z, Z = Y1.alloc (.cells D1 33) := ⟨_, rfl⟩
    have HZ1 := Lib.hid (And.intro (show Below Y1.heap.size Y1 Z1 by rw [hZ1]; exact below_new _ _) (show Z1.heap[Y1.heap.size]? = some (.cells D1 33 (0, 0)) by rw [hZ1]; exact new_obj _ _))
    rw [← hZ1] at hsr1
    have HV1 := Lib.hid hv1
    rw [hv1]
    have HD := Lib.hid (do51_any l HLL.out Z1)
    rw [← HS.out] at HD
    clear hret hat1 hl1 hb1 hrd1 hD1 hZ1 hv1 HP
    go_wp2_with (refine wpList_store_row rfl 33 (.tmp 11) (.tmp 61) rfl Y1.heap.size D1 rfl rfl 33 _ hoy1 hsz1 hold1 hone1 ?_; rw [hsr1])
    clear hoy1 hsr1 hold1 hone1
    refine HD.out.mono ?_
    rintro e Y2 hret
    obtain ⟨a2, c2, rfl, hat2, hl2, hb2, hrd2⟩ := retPa_uni hret
    obtain ⟨hcc2, hsame⟩ := HA1.out.2.2.same hrd2
    subst hcc2
    obtain ⟨D2, hD2⟩ : ∃ D, D = (actCs a2).toArray := ⟨_, rfl⟩
    have hv2 : actV a2 = .agg D2 := by rw [hD2]; rfl
    have hsz2 : (Tryz.prog.info? 33).map (·.size) = some D2.size := by rw [hD2]; exact act_size
    have hone2 : D2.all (·.oneCell') = true := by rw [hD2]; exact actCs_one a2
    have hold2 : (#[.int .i64 0, .int .i64 0, .int .i64 0, .int .i64 0, .int .i64 0, .int .i64 0, .slice none 0 0, .slice none 0 0] : Array Value).size = D2.size := by rw [hD2]; exact zero_size a2
    have hoy2 := new_obj Y2 (.cells #[.int .i64 0, .int .i64 0, .int .i64 0, .int .i64 0, .int .i64 0, .int .i64 0, .slice none 0 0, .slice none 0 0] 33)
    have hsr2 := World.setRow_alloc_new Y2 #[.int .i64 0, .int .i64 0, .int .i64 0, .int .i64 0, .int .i64 0, .int .i64 0, .slice none 0 0, .slice none 0 0] D2 33
    obtain ⟨Z2, hZ2⟩ : ∃ Z, Z = Y2.alloc (.cells D2 33) := ⟨_, rfl⟩
    have hb3 : Below Y2.heap.size Y2 Z2 := by rw [hZ2]; exact below_new _ _
    have hrw2 : Z2.heap[Y2.heap.size]? = some (.cells D2 33 (0, 0)) := by rw [hZ2]; exact new_obj _ _
    have hbz : Below Z1.heap.size Z1 Z2 := hb2.trans (hb3.mono hb2.size)
    have hrw1 : Z2.heap[Y1.heap.size]? = some (.cells D1 33 (0, 0)) := (hbz.block Y1.heap.size (Array.getElem?_eq_some_iff.1 HZ1.out.2).1).trans HZ1.out.2
    have hbz1 : Below Y1.heap.size Y1 Z2 := HZ1.out.1.trans (hbz.mono HZ1.out.1.size)
    have HSA := Lib.hid (sameAct_any a1 a2 Z2 Z2.heap.size Z2.heap.size (HA1.out.1.next hbz1) (hat2.next hb3) (Nat.le_refl _) (Nat.le_refl _) HA1.out.2.1.ns HA1.out.2.1.nn HA1.out.2.1.ng)
    rw [tb_true hsame, HV1.out, hv2] at HSA
    have HEND := Lib.hid (HW.out.2.trans ((HY1.out.trans (hbz1.mono HY1.out.size)).mono HW.out.2.size))
    rw [← hZ2] at hsr2
    rw [hv2]
    clear hret hat2 hl2 hb2 hrd2 hD2 hZ2 hb3 hbz hbz1 hsame hv2 HD
    go_wp2_with (first | (refine wpList_store_row rfl 33 (.tmp 13) (.tmp 66) rfl Y2.heap.size D2 rfl rfl 33 _ hoy2 hsz2 hold2 hone2 ?_; rw [hsr2]) | (refine wpList_load_row_g (by rfl) 33 (.tmp 11) rfl Y1.heap.size rfl 33 D1 (0, 0) _ hrw1 Tryz.underlying33 rfl hsz1 ?_) | (refine wpList_load_row_g (by rfl) 33 (.tmp 13) rfl Y2.heap.size rfl 33 D2 (0, 0) _ hrw2 Tryz.underlying33 rfl hsz2 ?_))
    refine HSA.out.mono ?_
    rintro e Z3 ⟨rfl, hb⟩
    have HZ3 := Lib.hid hb
    clear hb
    go_wp2_with fail
    go_ret
    exact ⟨rfl, HEND.out.trans (HZ3.out.mono HEND.out.size)⟩
  · have e1 : (cc == 0) = false := by simpa using hcc
    have e2 : (cc != 0) = true := by simpa using hcc
    clear hcc
    go_wp2_with (refine wpList_load_row_g (by rfl) 33 (.tmp 2) rfl w.heap.size rfl 33 C (0, 0) _ hrow3 Tryz.underlying33 rfl hsz ?_)
    refine HA.out.mono ?_
    rintro e X4 ⟨hf, hb⟩
    have HX4 := Lib.hid (HX3.out.trans (hb.mono HX3.out.size))
    have he := HFF.out.same hf
    subst he
    have HP := Lib.hid (parseAct_any l X4 (HRD.out X4 HX4.out))
    rw [← HS.out] at HP
    clear hb hf hrow3 HA
    go_wp2_with fail
    refine HP.out.mono ?_
    rintro e Y1 hret
    obtain ⟨a1, c1, rfl, hat1, hl1, hb1, hrd1⟩ := retPa_uni hret
    have HY1 := Lib.hid (HX4.out.trans (hb1.mono HX4.out.size))
    have HA1 := Lib.hid (And.intro hat1 (And.intro hl1 hrd1))
    obtain ⟨D1, hD1⟩ : ∃ D, D = (actCs a1).toArray := ⟨_, rfl⟩
    have hv1 : actV a1 = .agg D1 := by rw [hD1]; rfl
    have hsz1 : (Tryz.prog.info? 33).map (·.size) = some D1.size := by rw [hD1]; exact act_size
    have hone1 : D1.all (·.oneCell') = true := by rw [hD1]; exact actCs_one a1
    have hold1 : (#[.int .i64 0, .int .i64 0, .int .i64 0, .int .i64 0, .int .i64 0, .int .i64 0, .slice none 0 0, .slice none 0 0] : Array Value).size = D1.size := by rw [hD1]; exact zero_size a1
    have hoy1 := new_obj Y1 (.cells #[.int .i64 0, .int .i64 0, .int .i64 0, .int .i64 0, .int .i64 0, .int .i64 0, .slice none 0 0, .slice none 0 0] 33)
    have hsr1 := World.setRow_alloc_new Y1 #[.int .i64 0, .int .i64 0, .int .i64 0, .int .i64 0, .int .i64 0, .int .i64 0, .slice none 0 0, .slice none 0 0] D1 33
    obtain ⟨Z1, hZ1⟩ : ∃ Z, Z = Y1.alloc (.cells D1 33) := ⟨_, rfl⟩
    have HZ1 := Lib.hid (And.intro (show Below Y1.heap.size Y1 Z1 by rw [hZ1]; exact below_new _ _) (show Z1.heap[Y1.heap.size]? = some (.cells D1 33 (0, 0)) by rw [hZ1]; exact new_obj _ _))
    rw [← hZ1] at hsr1
    have HV1 := Lib.hid hv1
    rw [hv1]
    have HD := Lib.hid (do51_any l HLL.out Z1)
    rw [← HS.out] at HD
    clear hret hat1 hl1 hb1 hrd1 hD1 hZ1 hv1 HP
    go_wp2_with (refine wpList_store_row rfl 33 (.tmp 11) (.tmp 61) rfl Y1.heap.size D1 rfl rfl 33 _ hoy1 hsz1 hold1 hone1 ?_; rw [hsr1])
    clear hoy1 hsr1 hold1 hone1
    refine HD.out.mono ?_
    rintro e Y2 hret
    obtain ⟨a2, c2, rfl, hat2, hl2, hb2, hrd2⟩ := retPa_uni hret
    obtain ⟨hcc2, hsame⟩ := HA1.out.2.2.same hrd2
    subst hcc2
    obtain ⟨D2, hD2⟩ : ∃ D, D = (actCs a2).toArray := ⟨_, rfl⟩
    have hv2 : actV a2 = .agg D2 := by rw [hD2]; rfl
    have hsz2 : (Tryz.prog.info? 33).map (·.size) = some D2.size := by rw [hD2]; exact act_size
    have hone2 : D2.all (·.oneCell') = true := by rw [hD2]; exact actCs_one a2
    have hold2 : (#[.int .i64 0, .int .i64 0, .int .i64 0, .int .i64 0, .int .i64 0, .int .i64 0, .slice none 0 0, .slice none 0 0] : Array Value).size = D2.size := by rw [hD2]; exact zero_size a2
    have hoy2 := new_obj Y2 (.cells #[.int .i64 0, .int .i64 0, .int .i64 0, .int .i64 0, .int .i64 0, .int .i64 0, .slice none 0 0, .slice none 0 0] 33)
    have hsr2 := World.setRow_alloc_new Y2 #[.int .i64 0, .int .i64 0, .int .i64 0, .int .i64 0, .int .i64 0, .int .i64 0, .slice none 0 0, .slice none 0 0] D2 33
    obtain ⟨Z2, hZ2⟩ : ∃ Z, Z = Y2.alloc (.cells D2 33) := ⟨_, rfl⟩
    have hb3 : Below Y2.heap.size Y2 Z2 := by rw [hZ2]; exact below_new _ _
    have hrw2 : Z2.heap[Y2.heap.size]? = some (.cells D2 33 (0, 0)) := by rw [hZ2]; exact new_obj _ _
    have hbz : Below Z1.heap.size Z1 Z2 := hb2.trans (hb3.mono hb2.size)
    have hrw1 : Z2.heap[Y1.heap.size]? = some (.cells D1 33 (0, 0)) := (hbz.block Y1.heap.size (Array.getElem?_eq_some_iff.1 HZ1.out.2).1).trans HZ1.out.2
    have hbz1 : Below Y1.heap.size Y1 Z2 := HZ1.out.1.trans (hbz.mono HZ1.out.1.size)
    have HSA := Lib.hid (sameAct_any a1 a2 Z2 Z2.heap.size Z2.heap.size (HA1.out.1.next hbz1) (hat2.next hb3) (Nat.le_refl _) (Nat.le_refl _) HA1.out.2.1.ns HA1.out.2.1.nn HA1.out.2.1.ng)
    rw [tb_true hsame, HV1.out, hv2] at HSA
    have HEND := Lib.hid (HW.out.2.trans ((HY1.out.trans (hbz1.mono HY1.out.size)).mono HW.out.2.size))
    rw [← hZ2] at hsr2
    rw [hv2]
    clear hret hat2 hl2 hb2 hrd2 hD2 hZ2 hb3 hbz hbz1 hsame hv2 HD
    go_wp2_with (first | (refine wpList_store_row rfl 33 (.tmp 13) (.tmp 66) rfl Y2.heap.size D2 rfl rfl 33 _ hoy2 hsz2 hold2 hone2 ?_; rw [hsr2]) | (refine wpList_load_row_g (by rfl) 33 (.tmp 11) rfl Y1.heap.size rfl 33 D1 (0, 0) _ hrw1 Tryz.underlying33 rfl hsz1 ?_) | (refine wpList_load_row_g (by rfl) 33 (.tmp 13) rfl Y2.heap.size rfl 33 D2 (0, 0) _ hrw2 Tryz.underlying33 rfl hsz2 ?_))
    refine HSA.out.mono ?_
    rintro e Z3 ⟨rfl, hb⟩
    have HZ3 := Lib.hid hb
    clear hb
    go_wp2_with fail
    go_ret
    exact ⟨rfl, HEND.out.trans (HZ3.out.mono HEND.out.size)⟩
end
end Go.Proofs.YtakdkiggaalimaaGreatDoor
