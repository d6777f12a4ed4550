/-
  The iterator over the nodes of a set (nodeset.Set.Each): it yields them in ascending order.
-/
import Derived.Test.YtalfjcamjdmdjaaDoorSetC
import Derived.RangeFuncNested
import Derived.RangeFuncBound
import Derived.RangeFuncCalls
import Derived.RangeFuncLeaves
import Derived.Shelf.Abstract
import Derived.Shelf.RegionOpen
import Derived.OwnWalkIn
import Derived.TacticsInMore
import Derived.LoopNIn
import Derived.LoopIn
import Derived.Sort.QuietIn
namespace Go.Proofs.YtalfjcamjdmdjaaDoor
open Go.RowKit Go.Shelf
attribute [local go_sem] Oper.semAt_some

theorem attach_atN {zs : List Nat} {k z : Nat} (hz : zs[k]? = some z) (hmem : z ∈ zs) : zs.attach.take (k + 1) = zs.attach.take k ++ [⟨z, hmem⟩] := by
  have hl := (List.getElem?_eq_some_iff.1 hz).1
  have hat : zs.attach[k]? = some ⟨z, hmem⟩ := by
    rw [List.getElem?_eq_getElem (by simpa using hl), List.getElem_attach]
    congr 1
    exact Subtype.ext (List.getElem?_eq_some_iff.1 hz).2
  have hl' := (List.getElem?_eq_some_iff.1 hat).1
  rw [List.take_succ_eq_append_getElem hl', (List.getElem?_eq_some_iff.1 hat).2]
theorem drop_headN {zs r : List Nat} {k z : Nat} (h : zs.drop k = z :: r) : zs[k]? = some z ∧ zs.drop (k + 1) = r ∧ k < zs.length := by
  have h1 : (zs.drop k)[0]? = some z := by rw [h]; rfl
  rw [List.getElem?_drop, Nat.add_zero] at h1
  refine ⟨h1, ?_, (List.getElem?_eq_some_iff.1 h1).1⟩
  have h2 := congrArg (List.drop 1) h
  rw [List.drop_drop] at h2
  simpa [Nat.add_comm] using h2
theorem from_cons {W : List Nat} {k x : Nat} (h : W[k]? = some x) : nodesFrom k (W.drop k) = (bl x).map (64 * k + ·) ++ nodesFrom (k + 1) (W.drop (k + 1)) := by
  obtain ⟨hl, hx⟩ := List.getElem?_eq_some_iff.1 h
  rw [List.drop_eq_getElem_cons hl, nodesFrom, hx]
theorem bl_step {x : Nat} (h0 : x ≠ 0) (h : x < 18446744073709551616) (k : Nat) (r : List Nat) : (bl x).map (64 * k + ·) ++ r = (64 * k + Lib.ctz 64 x) :: ((bl (x &&& (x - 1))).map (64 * k + ·) ++ r) := by
  rw [(strike h0 h).1]
  rfl
/-- the row of words stays, and the table. -/
def KeepTwo (b : Nat) (W W' : World) : Prop := W'.heap[b]? = W.heap[b]? ∧ W'.heap[0]? = W.heap[0]?
theorem KeepTwo.refl {b : Nat} {A : World} : KeepTwo b A A := ⟨rfl, rfl⟩
theorem KeepTwo.trans {b : Nat} {A B C : World} (h : KeepTwo b A B) (h' : KeepTwo b B C) : KeepTwo b A C := ⟨h'.1.trans h.1, h'.2.trans h.2⟩
theorem KeepTwo.put {b B : Nat} (hb : b < B) (W : World) (l : Nat) (o' : Obj) (hl : B ≤ l) : KeepTwo b W (W.putObj l o') := ⟨World.putObj_heap_other (by omega), World.putObj_heap_other (by omega)⟩
theorem KeepTwo.only {b : Nat} {A B : World} {S : Nat → Prop} (h : Only S A B) (hb : b < A.heap.size) (hg : 0 < A.heap.size) (nb : ¬ S b) (ng : ¬ S 0) : KeepTwo b A B := ⟨h.block b hb nb, h.block _ hg ng⟩
theorem cell_of_heapN {W W' : World} {b : Nat} (h : W'.heap[b]? = W.heap[b]?) (o : Nat) : W'.cell? ⟨b, o, none⟩ = W.cell? ⟨b, o, none⟩ := by
  unfold World.cell?
  dsimp only
  rw [h]
set_option maxRecDepth 100000 in
set_option maxHeartbeats 2000000 in
theorem each_in (n : Nat) (hn : 1 ≤ n) (l sb b : Nat) (V : List Nat) (hV : Wds V)
    (zs : List Nat) (hzs : zs = nodesW V)
    (J Jx : List {z : Nat // z ∈ zs} → World → Prop)
    (hY : ∀ pre x W, J pre W → pre.length < zs.length → YieldAt Fence.wide (n - 1) Tryd.prog l #[.int .i64 x.1] W fun e W' =>
      (e = .returned (.bool true) ∧ J (pre ++ [x]) W' ∧ KeepTwo b W W') ∨ (e = .returned (.bool false) ∧ Jx (pre ++ [x]) W'))
    (hJd : ∀ s W q, J s W → J s (W.drewN q))
    (W : World) (hc : W.cell? ⟨sb, 0, none⟩ = some (.pointer (some ⟨b, 0, none⟩))) (hrow : RowAt W b V) (hT : BruAt W) (h0 : J [] W) :
    CallsIn Fence.wide n Tryd.prog 36 #[.func (.yield l) #[] #[], .pointer (some ⟨sb, 0, none⟩)] W fun e W' => (∃ v, e = .returned v) ∧
      ((∃ ys, ys = zs.attach ∧ J ys W') ∨ (∃ pre, pre <+: zs.attach ∧ Jx pre W')) := by
  have HZS := Lib.hid hzs
  have HROW := Lib.hid hrow
  have HT := Lib.hid hT
  have HV := Lib.hid hV
  clear hzs hrow hT hV
  refine callsIn_of_wp Tryd.func36 rfl trivial ?_ rfl
  simp only [Tryd.ntmps36, List.size_toArray, List.length_cons, List.length_nil, Nat.reduceAdd, Nat.reduceSub, Array.replicate_succ, Array.replicate_zero, List.push_toArray, List.append_toArray, List.nil_append, List.cons_append]
  gi_wp2
  gi_loopw [3, 4, 10] (fun _ _ i wr => ∃ k m : Nat, k ≤ 64 ∧ i = .int .i64 k ∧ zs.drop m = nodesFrom k (V.drop k) ∧ m ≤ zs.length ∧ J (zs.attach.take m) wr ∧ KeepTwo b W wr) (fun _ _ i _ => 64 - (intOf i).toNat)
  case atStart => exact ⟨0, 0, Nat.zero_le _, rfl, by rw [HZS.out]; rfl, Nat.zero_le _, h0, KeepTwo.refl⟩
  case round =>
    obtain ⟨k, m, hk, rfl, hdr, hm, hJ, hb⟩ := hrel
    have HDR := Lib.hid hdr
    have HJ := Lib.hid hJ
    have HB := Lib.hid hb
    clear hdr hJ hb
    by_cases hlt : k < 64
    · obtain ⟨x, hx⟩ : ∃ x, V[k]? = some x := ⟨V[k]'(by rw [HV.out.len]; exact hlt), by simp⟩
      have hrw : RowAt wr b V := HB.out.1.trans HROW.out
      have hcx := hrw.cell hx
      have HXL := Lib.hid (HV.out.lt x (List.mem_of_getElem? hx))
      have HD2 := Lib.hid (HDR.out.trans (from_cons hx))
      have hk1 : (k : Int) < 64 := by omega
      clear hx hrw
      gi_wp2
      gi_quiet (fail)
      gi_wp2
      gi_loopw [4] (fun v wr2 => ∃ u m2 : Nat, v = .int .u64 u ∧ Hid (u < 18446744073709551616) ∧ zs.drop m2 = (bl u).map (64 * k + ·) ++ nodesFrom (k + 1) (V.drop (k + 1)) ∧ m2 ≤ zs.length ∧ J (zs.attach.take m2) wr2 ∧ KeepTwo b W wr2) (fun v _ => (intOf v).toNat)
      case atStart => exact ⟨x, m, rfl, HXL, HD2.out, hm, hJd _ _ _ HJ.out, HB.out⟩
      case round =>
        clear hcx hm HDR HJ HB HXL HD2
        obtain ⟨u, m2, rfl, HU, hdr, hm2, hJ, hb⟩ := hrel
        have HJ := Lib.hid hJ
        have HB := Lib.hid hb
        have HDR := Lib.hid hdr
        clear hJ hb hdr
        by_cases hu : u = 0
        · subst hu
          have HD3 := Lib.hid (show zs.drop m2 = nodesFrom (k + 1) (V.drop (k + 1)) from by have := HDR.out; rw [bl_zero] at this; exact this)
          gi_wp2
          go_roundw
          case rel => exact ⟨k + 1, m2, by omega, by go_num, HD3.out, hm2, HJ.out, HB.out⟩
          case measure => simp [intOf]; omega
        · obtain ⟨hs1, hs2, hs3⟩ := strike hu HU.out
          have hdr := HDR.out.trans (bl_step hu HU.out k _)
          have HTZ := Lib.hid (fun (X : World) (hX : BruAt X) => (callsIn_wide (n := n - 1)).2 (tz_any u HU.out hu X hX))
          have hand : bits .and .u64 (u : Int) ((u : Int) - 1) = ((u &&& (u - 1) : Nat) : Int) := by
            have hul := HU.out
            have e := Go.u64_and_nat u (u - 1) hul (by omega)
            have e1 : ((u - 1 : Nat) : Int) = (u : Int) - 1 := by omega
            rw [e1] at e
            exact e
          have HNL := Lib.hid (show u &&& (u - 1) < 18446744073709551616 from Nat.lt_trans hs2 HU.out)
          obtain ⟨c, hcc⟩ : ∃ c, c = Lib.ctz 64 u := ⟨_, rfl⟩
          obtain ⟨u2, hu2⟩ : ∃ y, y = u &&& (u - 1) := ⟨_, rfl⟩
          rw [← hcc] at hdr hs3 HTZ
          rw [← hu2] at hdr hs2 hand HNL
          have hub : (u : Int) ≤ 18446744073709551615 := by have := HU.out; omega
          have hu1 : (1 : Int) ≤ (u : Int) := by omega
          have hun : ((u : Int) != 0) = true := by simpa using hu
          clear hs1 hcc hu2
          obtain ⟨hz, hdr2, hlt2⟩ := drop_headN hdr
          have hmem := List.mem_of_getElem? hz
          have HTK := Lib.hid (attach_atN hz hmem)
          have HD3 := Lib.hid hdr2
          obtain ⟨fn, tmps, assign, body, hy, hR⟩ := hY (zs.attach.take m2) ⟨64 * k + c, hmem⟩ wr HJ.out (by rw [List.length_take, List.length_attach]; omega)
          have HR := Lib.hid hR
          dsimp only at hy
          have e2 : ((64 * k + c : Nat) : Int) = (k : Int) * 64 + (c : Int) := by omega
          rw [e2] at hy
          have HBR := Lib.hid (show BruAt wr from fun j hj => (cell_of_heapN HB.out.2 j).trans (HT.out j hj))
          clear hz hdr hdr2 hR e2 hu
          gi_wp2
          refine ⟨trivial, (HTZ.out _ HBR.out).mono ?_⟩
          rintro e w' ⟨rfl, rfl⟩
          gi_wp2
          refine HR.out.mono ?_
          rintro e W3 (⟨rfl, hJ3, hk3⟩ | ⟨rfl, hJx3⟩)
          · gi_wp2
            go_roundw
            case rel => exact ⟨u2, m2 + 1, rfl, HNL, HD3.out, by omega, by rw [HTK.out]; exact hJ3, HB.out.trans hk3⟩
            case measure => simp [intOf]; omega
          · gi_wp2
            refine bodyPost_ret (results_none rfl _ _ _) rfl ?_
            exact ⟨⟨_, rfl⟩, .inr ⟨_, by rw [← HTK.out]; exact List.take_prefix _ _, hJx3⟩⟩
    · have hkk : k = 64 := by omega
      subst hkk
      have HE := Lib.hid (show m = zs.length from by
        have h1 := HDR.out
        rw [List.drop_eq_nil_of_le (show V.length ≤ 64 by rw [HV.out.len]; exact Nat.le_refl _)] at h1
        have h2 := List.drop_eq_nil_iff.1 h1
        omega)
      gi_wp2
      go_end0
      exact ⟨⟨_, rfl⟩, .inl ⟨_, rfl, by have := HJ.out; rw [HE.out] at this; rwa [List.take_of_length_le (by simp)] at this⟩⟩

theorem each_nil (n l sb : Nat) (W : World) (hc : W.cell? ⟨sb, 0, none⟩ = some (.pointer none)) (R : World → Prop) (h0 : R W) :
    CallsIn Fence.wide n Tryd.prog 36 #[.func (.yield l) #[] #[], .pointer (some ⟨sb, 0, none⟩)] W fun e W' => (∃ v, e = .returned v) ∧ R W' := by
  refine callsIn_of_wp Tryd.func36 rfl trivial ?_ rfl
  simp only [Tryd.ntmps36, List.size_toArray, List.length_cons, List.length_nil, Nat.reduceAdd, Nat.reduceSub, Array.replicate_succ, Array.replicate_zero, List.push_toArray, List.append_toArray, List.nil_append, List.cons_append]
  gi_wp2
  refine bodyPost_ret (results_none rfl _ _ _) rfl ?_
  exact ⟨⟨_, rfl⟩, h0⟩
/-- the block of the set's row (if it has none: any). -/
def rowOf : Option Addr → Nat
  | some a => a.block
  | none => 0
/-- the contract of the iterator. -/
theorem each_stops (n : Nat) (hn : 1 ≤ n) (sb : Nat) (p : Option Addr) (V : List Nat) (w : World) (h : SetAt w p V) (hc : w.cell? ⟨sb, 0, none⟩ = some (.pointer p)) (hsb : sb < w.heap.size) (hT : BruAt w) (hg : 0 < w.heap.size) :
    SeqStopsK Fence.wide n Tryd.prog 36 #[.pointer (some ⟨sb, 0, none⟩)] (fun x : {z : Nat // z ∈ nodesW V} => #[Value.int .i64 (x.1 : Int)]) (KeepTwo (rowOf p)) (fun ys => ys = (nodesW V).attach) (fun pre => pre <+: (nodesW V).attach) (nodesW V).length w := by
  intro l J Jx W hW hJ hJx hY h0
  have hc' := (hW.cell (p := ⟨sb, 0, none⟩) hsb).trans hc
  have hT' : BruAt W := fun j hj => (hW.cell (p := ⟨0, j, none⟩) hg).trans (hT j hj)
  obtain ⟨hV, ⟨rfl, rfl⟩ | ⟨_, b, rfl, hrow⟩⟩ := h
  · refine (each_nil n l sb W hc' (fun W' => W' = W) rfl).mono ?_
    rintro e W' ⟨hv, rfl⟩
    have hz : ((nodesW zeros).attach : List {z : Nat // z ∈ nodesW zeros}) = [] := List.eq_nil_iff_length_eq_zero.2 (by rw [List.length_attach, nodes_zeros]; rfl)
    exact ⟨hv, .inl ⟨_, rfl, by rw [hz]; exact h0⟩⟩
  · exact each_in n hn l sb b V hV (nodesW V) rfl J Jx hY (fun s A q hs => hJ s A _ none hs ⟨rfl, rfl, rfl, Nat.le_refl _, fun _ _ _ => rfl⟩ (fun r e => by cases e)) W hc' (hrow.below hW) hT' h0
theorem rowOf_lt {w : World} {p : Option Addr} {V : List Nat} (h : SetAt w p V) (hg : 0 < w.heap.size) : rowOf p < w.heap.size := by
  obtain ⟨_, ⟨_, rfl⟩ | ⟨_, b, rfl, hrow⟩⟩ := h
  · exact hg
  · exact hrow.lt
theorem each_any (w : World) (p : Option Addr) : Calls Tryd.prog 14 #[.agg #[.pointer p]] w fun e w' => e = .returned (.func (.func 36) #[] #[.pointer (some ⟨w.heap.size, 0, none⟩)]) ∧ w' = w.alloc (.cells #[.pointer p] 30) := by
  go_enter Tryd.func14, Tryd.ntmps14
  go_wp2_with fail
  go_ret
  exact ⟨rfl, rfl⟩
end Go.Proofs.YtalfjcamjdmdjaaDoor
