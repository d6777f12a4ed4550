/-
  The iterator over the edges that leave a node (roadgraph.enumerate, OutEdges): it yields their numbers in order.
-/
import Derived.Test.YtpomakmmjbimfaaTimes
import Derived.RangeFuncNested
import Derived.RangeFuncBound
import Derived.RangeFuncCalls
import Derived.RangeFuncLeaves
import Derived.Shelf.Abstract
import Derived.Shelf.RegionOpen
import Derived.WalkKit
import Derived.OwnWalkIn
import Derived.TacticsInMore
import Derived.LoopNIn
import Derived.LoopIn
namespace Go.Proofs.Ytpomakmmjbimfaa
open Go.RowKit Go.Shelf Go.Maps
attribute [local go_sem] Oper.semAt_some

/-- enumerate makes a closure over two new boxes. -/
theorem enumerate_any (a : Option Addr) (n : Nat) (x : Int) (w : World) :
    Calls Try.prog 68 #[.slice a n n, .int .i64 x] w fun e w' => e = .returned (.func (.func 71) #[] #[.pointer (some ⟨w.heap.size + 1, 0, none⟩), .pointer (some ⟨w.heap.size, 0, none⟩)]) ∧ w' = (w.alloc (.cells #[.slice a n n] 106)).alloc (.cells #[.int .i64 x] 3) := by
  go_enter Try.func68, Try.ntmps68
  go_wp2_with fail
  go_ret
  exact ⟨rfl, rfl⟩

theorem outEdges_any (p n : Nat) (E : List EdgeT) (w : World) (B : Nat) (hg : GraphAt w B p n E) (x : Int) :
    ∃ ob, (ob < B ∧ ∀ j, j < n → ∃ A c, w.cell? ⟨ob, j, none⟩ = some (.slice A (idx EdgeT.frm E E.length j).length c) ∧ Sl w B A ((idx EdgeT.frm E E.length j).map (Value.int .i64))) ∧ Calls Try.prog 58 #[.pointer (some ⟨p, 0, none⟩), .int .i64 x] w fun e w' => e = .returned (.func (.func 71) #[] #[.pointer (some ⟨w.heap.size + 1, 0, none⟩), .pointer (some ⟨w.heap.size, 0, none⟩)]) ∧ w' = (w.alloc (.cells #[.slice (some ⟨ob, 0, none⟩) n n] 106)).alloc (.cells #[.int .i64 x] 3) := by
  obtain ⟨ob, hob, c1, hrw⟩ := hg.out
  have hen := fun W => enumerate_any (some ⟨ob, 0, none⟩) n x W
  refine ⟨ob, ⟨hob, fun j hj => ?_⟩, ?_⟩
  · obtain ⟨A, c, h1, h2, _⟩ := hrw j hj
    exact ⟨A, c, h1, h2⟩
  clear hrw
  go_enter Try.func58, Try.ntmps58
  go_wp2_with (refine Calls.mono (hen _) ?_; rintro e W ⟨rfl, rfl⟩)
  go_ret
  exact ⟨rfl, rfl⟩

set_option maxRecDepth 100000 in
set_option maxHeartbeats 2000000 in
/-- the closure, at a node: for every loop body that keeps what lay below n₀. -/
theorem iter_in (F : Fence) (n : Nat) (hF : F.fn 71) (hro : F.round = none) (hn : 1 ≤ n) (l Bn Bl n₀ ob nn x : Nat) (A : Option Addr) (c : Nat) (zs : List Int) (hx : x < nn) (hzl : zs.length ≤ 16384) (J Jx : List {z : Int // z ∈ zs} → World → Prop)
    (hY : ∀ pre x W, J pre W → pre.length < zs.length → YieldAt F (n - 1) Try.prog l #[.int .i64 x.1] W fun e W' =>
      (e = .returned (.bool true) ∧ J (pre ++ [x]) W' ∧ Below n₀ W W') ∨ (e = .returned (.bool false) ∧ Jx (pre ++ [x]) W'))
    (W : World) (hBn : W.cell? ⟨Bn, 0, none⟩ = some (.int .i64 (x : Int))) (hBl : W.cell? ⟨Bl, 0, none⟩ = some (.slice (some ⟨ob, 0, none⟩) nn nn)) (hrow : W.cell? ⟨ob, x, none⟩ = some (.slice A zs.length c)) (hsl : Sl W n₀ A (zs.map (Value.int .i64))) (h0 : J [] W) :
    CallsIn F n Try.prog 71 #[.func (.yield l) #[] #[], .pointer (some ⟨Bn, 0, none⟩), .pointer (some ⟨Bl, 0, none⟩)] W fun e W' => (∃ v, e = .returned v) ∧
      ((∃ ys, ys = zs.attach ∧ J ys W') ∨ (∃ pre, pre <+: zs.attach ∧ Jx pre W')) := by
  have d1 : decide ((x : Int) < 0) = false := by simp
  have d2 : decide ((nn : Int) ≤ (x : Int)) = false := by simp; omega
  have d2' : decide (nn ≤ x) = false := by simp; omega
  have hxj : (x : Int) < (nn : Int) := by omega
  refine callsIn_of_wp Try.func71 rfl hF ?_ hro
  simp only [Try.ntmps71, List.size_toArray, List.length_cons, List.length_nil, Nat.reduceAdd, Nat.reduceSub, Array.replicate_succ, Array.replicate_zero, List.push_toArray, List.append_toArray, List.nil_append, List.cons_append]
  gi_wp2
  gi_loopw [19] (fun i wr => ∃ k : Nat, k ≤ zs.length ∧ i = .int .i64 k ∧ J (zs.attach.take k) wr ∧ Below n₀ W wr) (fun i _ => zs.length - (intOf i).toNat)
  case atStart => exact ⟨0, Nat.zero_le _, rfl, h0, Below.refl _ _⟩
  case round =>
    obtain ⟨k, hk, rfl, hJs, hnx⟩ := hrel
    have HNX := Lib.hid hnx
    have HJ := Lib.hid hJs
    clear hnx hJs
    by_cases hlt : k < zs.length
    · obtain ⟨z, hz⟩ : ∃ z, zs[k]? = some z := ⟨zs[k], by simp⟩
      have hmem : z ∈ zs := List.mem_of_getElem? hz
      have hat : zs.attach[k]? = some ⟨z, hmem⟩ := by
        have hl := (List.getElem?_eq_some_iff.1 hz).1
        rw [List.getElem?_eq_getElem (by simpa using hl), List.getElem_attach]
        congr 1
        exact Subtype.ext (List.getElem?_eq_some_iff.1 hz).2
      obtain ⟨b, o, rfl, hb, hc⟩ := hsl.int hz
      have hcz : wr.cell? ⟨b, o + k, none⟩ = some (.int .i64 z) := (HNX.out.cell (p := ⟨b, o + k, none⟩) hb).trans hc
      obtain ⟨fn, tmps, assign, body, hy, hR⟩ := hY (zs.attach.take k) ⟨z, hmem⟩ wr HJ.out (by rw [List.length_take, List.length_attach]; omega)
      have HTK : Hid (zs.attach.take (k + 1) = zs.attach.take k ++ [⟨z, hmem⟩]) := Lib.hid (by
        have hl := (List.getElem?_eq_some_iff.1 hat).1
        rw [List.take_succ_eq_append_getElem hl, (List.getElem?_eq_some_iff.1 hat).2])
      have HR := Lib.hid hR
      clear hz hc hR hat
      dsimp only at hy
      gi_wp2
      refine HR.out.mono ?_
      rintro e W3 (⟨rfl, hJ3, hk3⟩ | ⟨rfl, hJx3⟩)
      · gi_wp2
        go_roundw
        case rel => exact ⟨k + 1, by omega, by simp, by rw [HTK.out]; exact hJ3, HNX.out.trans hk3⟩
        case measure => simp [intOf]; omega
      · gi_wp2
        refine bodyPost_ret (results_none rfl _ _ _) rfl ?_
        exact ⟨⟨_, rfl⟩, .inr ⟨_, by rw [← HTK.out]; exact List.take_prefix _ _, hJx3⟩⟩
    · obtain rfl : k = zs.length := by omega
      gi_wp2
      go_end0
      exact ⟨⟨_, rfl⟩, .inl ⟨_, rfl, by have := HJ.out; rwa [List.take_of_length_le (by simp)] at this⟩⟩

theorem iter_stops (F : Fence) (n : Nat) (hF : F.fn 71) (hro : F.round = none) (hn : 1 ≤ n) (Bn Bl n₀ ob nn x : Nat) (A : Option Addr) (c : Nat) (zs : List Int) (hx : x < nn) (hob : ob < n₀) (hzl : zs.length ≤ 16384) (w : World) (hBnz : Bn < w.heap.size) (hBlz : Bl < w.heap.size) (hn₀ : n₀ ≤ w.heap.size)
    (hBn : w.cell? ⟨Bn, 0, none⟩ = some (.int .i64 (x : Int))) (hBl : w.cell? ⟨Bl, 0, none⟩ = some (.slice (some ⟨ob, 0, none⟩) nn nn)) (hrow : w.cell? ⟨ob, x, none⟩ = some (.slice A zs.length c)) (hsl : Sl w n₀ A (zs.map (Value.int .i64))) :
    SeqStopsK F n Try.prog 71 #[.pointer (some ⟨Bn, 0, none⟩), .pointer (some ⟨Bl, 0, none⟩)] (fun x : {z : Int // z ∈ zs} => #[Value.int .i64 x.1]) (Below n₀) (fun ys => ys = zs.attach) (fun pre => pre <+: zs.attach) zs.length w := fun l J Jx W hW _ _ hY h0 =>
  iter_in F n hF hro hn l Bn Bl n₀ ob nn x A c zs hx hzl J Jx hY W ((hW.cell (p := ⟨Bn, 0, none⟩) hBnz).trans hBn) ((hW.cell (p := ⟨Bl, 0, none⟩) hBlz).trans hBl) ((hW.cell (p := ⟨ob, x, none⟩) (Nat.lt_of_lt_of_le hob hn₀)).trans hrow) (hsl.below (hW.mono hn₀)) h0
end Go.Proofs.Ytpomakmmjbimfaa
