/-
  The iterator of strings.SplitSeq and strings.SplitAfterSeq (strings.splitSeq), at a separator of one byte or more: it yields the pieces of the string, in order. Its state is the variable s.
-/
import Derived.Test.YtalfjcamjdmdjaaDoorSeqS
import Derived.Test.YtalfjcamjdmdjaaDoorProg
import Derived.Test.YtalfjcamjdmdjaaDoorShelf
import Derived.Lib.Split
import Derived.Shelf.Abstract
import Derived.Shelf.RegionOpen
namespace Go.Proofs.YtalfjcamjdmdjaaDoor
open Go.RowKit Go.Shelf Go.Maps
attribute [local go_sem] Oper.semAt_some

/-- the string that lies at block sb. -/
def sizeAt (sb : Nat) (w : World) : Nat := match w.cell? ⟨sb, 0, none⟩ with | some (.string r) => r.size | _ => 0
theorem sizeAt_of {sb : Nat} {w : World} {r : ByteArray} (h : w.cell? ⟨sb, 0, none⟩ = some (.string r)) : sizeAt sb w = r.size := by unfold sizeAt; rw [h]
/-- the three cells of the iterator stay, and the variable that Index reads. -/
def KeepFour (a b c d : Nat) (W W' : World) : Prop := W'.heap[a]? = W.heap[a]? ∧ W'.heap[b]? = W.heap[b]? ∧ W'.heap[c]? = W.heap[c]? ∧ W'.heap[d]? = W.heap[d]?
theorem KeepFour.trans {a b c d : Nat} {A B C : World} (h : KeepFour a b c d A B) (h' : KeepFour a b c d B C) : KeepFour a b c d A C :=
  ⟨h'.1.trans h.1, h'.2.1.trans h.2.1, h'.2.2.1.trans h.2.2.1, h'.2.2.2.trans h.2.2.2⟩
theorem KeepFour.put {a b c d B : Nat} (ha : a < B) (hb : b < B) (hc : c < B) (hd : d < B) (W : World) (l : Nat) (o' : Obj) (hl : B ≤ l) : KeepFour a b c d W (W.putObj l o') :=
  ⟨World.putObj_heap_other (by omega), World.putObj_heap_other (by omega), World.putObj_heap_other (by omega), World.putObj_heap_other (by omega)⟩
theorem cell_of_heap {W W' : World} {b : Nat} (h : W'.heap[b]? = W.heap[b]?) (o : Nat) : W'.cell? ⟨b, o, none⟩ = W.cell? ⟨b, o, none⟩ := by
  unfold World.cell?
  dsimp only
  rw [h]
theorem frozen_of_heap {W W' : World} {b : Nat} (h : W'.heap[b]? = W.heap[b]?) (o : Nat) : W'.frozen? ⟨b, o, none⟩ = W.frozen? ⟨b, o, none⟩ := by
  unfold World.frozen?
  dsimp only
  rw [h]
theorem attach_at {zs : List ByteArray} {k : Nat} {z : ByteArray} (hz : zs[k]? = some z) (hmem : z ∈ zs) : zs.attach.take (k + 1) = zs.attach.take k ++ [⟨z, hmem⟩] := by
  have hl := (List.getElem?_eq_some_iff.1 hz).1
  have hat : zs.attach[k]? = some ⟨z, hmem⟩ := by
    rw [List.getElem?_eq_getElem (by simpa using hl), List.getElem_attach]
    congr 1
    exact Subtype.ext (List.getElem?_eq_some_iff.1 hz).2
  have hl' := (List.getElem?_eq_some_iff.1 hat).1
  rw [List.take_succ_eq_append_getElem hl', (List.getElem?_eq_some_iff.1 hat).2]
theorem drop_head {zs r : List ByteArray} {k : Nat} {z : ByteArray} (h : zs.drop k = z :: r) : zs[k]? = some z ∧ zs.drop (k + 1) = r ∧ k < zs.length := by
  have h1 : (zs.drop k)[0]? = some z := by rw [h]; rfl
  rw [List.getElem?_drop, Nat.add_zero] at h1
  refine ⟨h1, ?_, (List.getElem?_eq_some_iff.1 h1).1⟩
  have h2 := congrArg (List.drop 1) h
  rw [List.drop_drop] at h2
  simpa [Nat.add_comm] using h2

set_option maxRecDepth 100000 in
set_option maxHeartbeats 2000000 in
theorem split_in (F : Fence) (n : Nat) (hF : F.fn 57) (hFi : F.fn 59) (hro : F.round = none) (hn : 1 ≤ n) (l bp sb bv gm : Nat) (s sep : ByteArray) (v : Nat) (hsep : 1 ≤ sep.size) (hv : v ≤ sep.size) (hs : s.size ≤ 1099511627) (hd1 : bp ≠ sb) (hd2 : bv ≠ sb) (hd3 : gm ≠ sb) (mx : Int)
    (zs : List ByteArray) (hzs : zs = Lib.splitB sep v s.size s)
    (hix : ∀ (r : ByteArray) (W : World), r.size ≤ s.size → W.cell? ⟨gm, 0, none⟩ = some (.int .i64 mx) → CallsIn F (n - 1) Tryd.prog 59 #[.string r, .string sep] W fun e w' => e = .returned (.int .i64 (Lib.index r.data.toList sep.data.toList)) ∧ w' = W)
    (J Jx : List {z : ByteArray // z ∈ zs} → World → Prop) (hJs : StaysAt sb J)
    (hY : ∀ pre x W, J pre W → pre.length < zs.length → YieldAt F (n - 1) Tryd.prog l #[.string x.1] W fun e W' =>
      (e = .returned (.bool true) ∧ J (pre ++ [x]) W' ∧ KeepFour bp sb bv gm W W') ∨ (e = .returned (.bool false) ∧ Jx (pre ++ [x]) W'))
    (W : World) (hbp : W.cell? ⟨bp, 0, none⟩ = some (.string sep)) (hsb : W.cell? ⟨sb, 0, none⟩ = some (.string s)) (hbv : W.cell? ⟨bv, 0, none⟩ = some (.int .i64 (v : Nat))) (hfz : W.frozen? ⟨sb, 0, none⟩ = false) (hgm : W.cell? ⟨gm, 0, none⟩ = some (.int .i64 mx)) (h0 : J [] W) :
    CallsIn F n Tryd.prog 57 #[.func (.yield l) #[] #[], .pointer (some ⟨bp, 0, none⟩), .pointer (some ⟨sb, 0, none⟩), .pointer (some ⟨bv, 0, none⟩)] W fun e W' => (∃ v, e = .returned v) ∧
      ((∃ ys, ys = zs.attach ∧ J ys W') ∨ (∃ pre, pre <+: zs.attach ∧ Jx pre W')) := by
  have hs0 : ¬ ((sep.size : Int) = 0) := by omega
  have HZS := Lib.hid hzs
  clear hzs
  refine callsIn_of_wp Tryd.func57 rfl hF ?_ hro
  simp only [Tryd.ntmps57, List.size_toArray, List.length_cons, List.length_nil, Nat.reduceAdd, Nat.reduceSub, Array.replicate_succ, Array.replicate_zero, List.push_toArray, List.append_toArray, List.nil_append, List.cons_append]
  gi_wp2
  have hb0 : ((sep.size : Int) == 0) = false := by simpa using hs0
  simp only [hb0]
  gi_loopw [7] (fun _ wr => ∃ (k : Nat) (r : ByteArray) (m : Nat), wr.cell? ⟨sb, 0, none⟩ = some (.string r) ∧ r.size ≤ m ∧ r.size ≤ s.size ∧ zs.drop k = Lib.splitB sep v m r ∧ J (zs.attach.take k) wr ∧ wr.cell? ⟨bp, 0, none⟩ = some (.string sep) ∧ wr.cell? ⟨bv, 0, none⟩ = some (.int .i64 (v : Nat)) ∧ wr.frozen? ⟨sb, 0, none⟩ = false ∧ wr.cell? ⟨gm, 0, none⟩ = some (.int .i64 mx)) (fun _ wr => sizeAt sb wr)
  case atStart => exact ⟨0, s, s.size, hsb, Nat.le_refl _, Nat.le_refl _, HZS.out, h0, hbp, hbv, hfz, hgm⟩
  case round =>
    obtain ⟨k, r, m, c2, hrm, hrs, hzr, hJ, c1, c3, c4, c5⟩ := hrel
    have HJ := Lib.hid hJ
    have HZR := Lib.hid hzr
    have HC := Lib.hid (And.intro c1 (And.intro c2 (And.intro c3 (And.intro c4 c5))))
    have HI := Lib.hid (hix r wr hrs c5)
    clear c5 hJ hzr hgm hbp hsb hbv hfz
    gi_wp2
    refine HI.out.mono ?_
    rintro e w1 ⟨rfl, rfl⟩
    rcases Lib.indexB_cases r sep with hi | ⟨i, hi, hile⟩
    · have hdrop : zs.drop k = [r] := HZR.out.trans (Lib.splitB_miss _ _ _ _ hi)
      obtain ⟨hz, hdr, hlt⟩ := drop_head hdrop
      have hmem := List.mem_of_getElem? hz
      have HTK := Lib.hid (attach_at hz hmem)
      have hall : zs.length ≤ k + 1 := List.drop_eq_nil_iff.1 hdr
      obtain ⟨fn, tmps, assign, body, hy, hR⟩ := hY (zs.attach.take k) ⟨r, hmem⟩ w1 HJ.out (by rw [List.length_take, List.length_attach]; omega)
      have HR := Lib.hid hR
      have hi' : Lib.index r.data.toList sep.data.toList = -1 := hi
      rw [hi']
      clear hz hR hdrop hdr hi hi'
      dsimp only at hy
      gi_wp2
      refine HR.out.mono ?_
      rintro e W3 (⟨rfl, hJ3, hk3⟩ | ⟨rfl, hJx3⟩)
      · gi_wp2
        go_end0
        refine ⟨⟨_, rfl⟩, .inl ⟨_, rfl, ?_⟩⟩
        rw [← HTK.out, List.take_of_length_le (by simpa using hall)] at hJ3
        exact hJ3
      · gi_wp2
        go_end0
        exact ⟨⟨_, rfl⟩, .inr ⟨_, by rw [← HTK.out]; exact List.take_prefix _ _, hJx3⟩⟩
    · obtain ⟨m', rfl⟩ : ∃ m', m = m' + 1 := ⟨m - 1, by omega⟩
      have hdrop := HZR.out.trans (Lib.splitB_hit sep v m' r i hi)
      obtain ⟨hz, hdr, hlt⟩ := drop_head hdrop
      have hmem := List.mem_of_getElem? hz
      have HTK := Lib.hid (attach_at hz hmem)
      have HDR := Lib.hid hdr
      obtain ⟨fn, tmps, assign, body, hy, hR⟩ := hY (zs.attach.take k) ⟨_, hmem⟩ w1 HJ.out (by rw [List.length_take, List.length_attach]; omega)
      have HR := Lib.hid hR
      have hi' : Lib.index r.data.toList sep.data.toList = (i : Int) := hi
      rw [hi']
      clear hz hR hdrop hdr hi hi'
      dsimp only at hy
      gi_wp2
      refine HR.out.mono ?_
      clear c1 c2 c3 c4 hy
      rintro e W3 (⟨rfl, hJ3, hk3⟩ | ⟨rfl, hJx3⟩)
      · have d1 := (cell_of_heap hk3.1 0).trans HC.out.1
        have d2 := (cell_of_heap hk3.2.1 0).trans HC.out.2.1
        have d3 := (cell_of_heap hk3.2.2.1 0).trans HC.out.2.2.1
        have d4 := (frozen_of_heap hk3.2.1 0).trans HC.out.2.2.2.1
        have D5 := Lib.hid ((cell_of_heap hk3.2.2.2 0).trans HC.out.2.2.2.2)
        have HJ3 := Lib.hid hJ3
        clear hJ3 hk3
        gi_wp2
        go_roundw
        case rel =>
          refine ⟨k + 1, _, m', World.cell?_setCell_same _ _ _ d2, ?_, ?_, HDR.out, ?_, ?_, ?_, ?_, ?_⟩
          · simp; omega
          · simp; omega
          · rw [HTK.out]; exact hJs _ _ _ HJ3.out
          · exact (World.cell?_setCell_other _ _ _ _ (fun e => hd1 (congrArg Addr.block e).symm)).trans d1
          · exact (World.cell?_setCell_other _ _ _ _ (fun e => hd2 (congrArg Addr.block e).symm)).trans d3
          · exact (World.frozen?_setCell _ _ _ _).trans d4
          · exact (World.cell?_setCell_other _ _ _ _ (fun e => hd3 (congrArg Addr.block e).symm)).trans D5.out
        case measure =>
          rw [sizeAt_of (World.cell?_setCell_same _ _ _ d2), sizeAt_of HC.out.2.1]
          simp
          omega
      · gi_wp2
        refine bodyPost_ret (results_none rfl _ _ _) rfl ?_
        exact ⟨⟨_, rfl⟩, .inr ⟨_, by rw [← HTK.out]; exact List.take_prefix _ _, hJx3⟩⟩

/-- the contract of the iterator. -/
theorem split_seq (F : Fence) (n : Nat) (hF : F.fn 57) (hFi : F.fn 59) (hro : F.round = none) (hn : 1 ≤ n) (bp sb bv gm : Nat) (s sep : ByteArray) (v : Nat) (hsep : 1 ≤ sep.size) (hv : v ≤ sep.size) (hs : s.size ≤ 1099511627) (hd1 : bp ≠ sb) (hd2 : bv ≠ sb) (hd3 : gm ≠ sb) (mx : Int)
    (zs : List ByteArray) (hzs : zs = Lib.splitB sep v s.size s)
    (hix : ∀ (r : ByteArray) (W : World), r.size ≤ s.size → W.cell? ⟨gm, 0, none⟩ = some (.int .i64 mx) → CallsIn F (n - 1) Tryd.prog 59 #[.string r, .string sep] W fun e w' => e = .returned (.int .i64 (Lib.index r.data.toList sep.data.toList)) ∧ w' = W)
    (w : World) (z1 : bp < w.heap.size) (z2 : sb < w.heap.size) (z3 : bv < w.heap.size) (z4 : gm < w.heap.size)
    (hbp : w.cell? ⟨bp, 0, none⟩ = some (.string sep)) (hsb : w.cell? ⟨sb, 0, none⟩ = some (.string s)) (hbv : w.cell? ⟨bv, 0, none⟩ = some (.int .i64 (v : Nat))) (hfz : w.frozen? ⟨sb, 0, none⟩ = false) (hgm : w.cell? ⟨gm, 0, none⟩ = some (.int .i64 mx)) :
    SeqState F n Tryd.prog 57 #[.pointer (some ⟨bp, 0, none⟩), .pointer (some ⟨sb, 0, none⟩), .pointer (some ⟨bv, 0, none⟩)] (fun x : {z : ByteArray // z ∈ zs} => #[Value.string x.1]) (KeepFour bp sb bv gm) (fun ys => ys = zs.attach) (fun pre => pre <+: zs.attach) zs.length sb w := fun l J Jx W hW _ _ hJs _ hY h0 =>
  split_in F n hF hFi hro hn l bp sb bv gm s sep v hsep hv hs hd1 hd2 hd3 mx zs hzs hix J Jx hJs hY W ((hW.cell (p := ⟨bp, 0, none⟩) z1).trans hbp) ((hW.cell (p := ⟨sb, 0, none⟩) z2).trans hsb) ((hW.cell (p := ⟨bv, 0, none⟩) z3).trans hbv) ((frozen_of_heap (hW.block sb z2) 0).trans hfz) ((hW.cell (p := ⟨gm, 0, none⟩) z4).trans hgm) h0
end Go.Proofs.YtalfjcamjdmdjaaDoor
