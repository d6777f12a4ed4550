/-
  roadgraph.New at valid edges.
  Nodes and isNode.
  The queue of shortestpath: push adds one number, pop takes one out; the order within is left open.
-/
import Derived.Test.YtimijjhdgihobaaDoorMqi
import Derived.Deep.QuietTactic
import Derived.BigQuiet
import Derived.BigRegion
namespace Go.Proofs.YtimijjhdgihobaaDoor
section
open Go.RowKit Go.Maps

def validE (n : Nat) (e : EdgeT) : Prop := 0 ≤ e.frm ∧ e.frm < n ∧ 0 ≤ e.dst ∧ e.dst < n ∧ ((1 ≤ e.tm ∧ e.tm ≤ 1048576) ∨ e.tm = 4611686018427387904)
def RetNew (w : World) (n : Nat) (E : List EdgeT) (e : Ending) (w' : World) : Prop := ∃ p, e = .returned (.tuple #[.pointer (some ⟨p, 0, none⟩), .int .i64 0]) ∧ GraphAt w' w'.heap.size p n E ∧ w.heap.size ≤ p ∧ Below w.heap.size w w'

set_option maxRecDepth 100000 in
set_option maxHeartbeats 2000000 in
theorem new_any (n : Nat) (A : Option Addr) (c : Nat) (E : List EdgeT) (w : World) (hn1 : 1 ≤ n) (hn : n ≤ 4096) (hE : E.length ≤ 16384) (he : EdgesAt w w.heap.size A E) (hnil : A = none → c = 0) (hok : ∀ e ∈ E, validE n e) :
    Calls Tryd.prog 14 #[.int .i64 n, .slice A E.length c] w (RetNew w n E) := by
  have HE := Lib.hid he
  have HOK := Lib.hid hok
  have HNIL := Lib.hid hnil
  have d1 : decide ((n : Int) < 1) = false := by simp; omega
  have d2 : decide ((4096 : Int) < (n : Int)) = false := by simp; omega
  have d3 : decide ((16384 : Int) < (E.length : Int)) = false := by simp; omega
  clear he hok hnil
  go_enter Tryd.func14, Tryd.ntmps14
  go_wp2_with fail
  go_loopw [19] (fun iv wr => ∃ k : Nat, k ≤ E.length ∧ iv = .int .i64 k ∧ Below w.heap.size w wr) (fun i _ => E.length - (intOf i).toNat)
  case atStart => exact ⟨0, Nat.zero_le _, rfl, Below.refl _ _⟩
  case round =>
    obtain ⟨k, hk, rfl, hb⟩ := hrel
    have HB := Lib.hid hb
    clear hb
    by_cases hlt : k < E.length
    · obtain ⟨⟨frm, too, tm⟩, hek⟩ : ∃ e, E[k]? = some e := ⟨E[k], by simp⟩
      obtain ⟨b, o, rfl, _, c0, c1, c2⟩ := (HE.out.below HB.out).at hek
      obtain ⟨h1, h2, h3, h4, h5⟩ := HOK.out _ (List.mem_of_getElem? hek)
      simp only at c0 c1 c2 h1 h2 h3 h4 h5
      have e1 : decide (frm < 0) = false := by simp; omega
      have e2 : decide ((n : Int) ≤ frm) = false := by simp; omega
      have e3 : decide (too < 0) = false := by simp; omega
      have e4 : decide ((n : Int) ≤ too) = false := by simp; omega
      have HB2 := Lib.hid (HB.out.alloc HB.out.size (.cells #[.int .i64 frm, .int .i64 too, .int .i64 tm] 55))
      clear hek
      rcases h5 with ⟨h5, h6⟩ | h5
      · have e5 : decide (tm < 1) = false := by simp; omega
        have e6 : decide ((1048576 : Int) < tm) = false := by simp; omega
        go_wp2_with fail
        go_roundw
        case rel => exact ⟨k + 1, by omega, by go_num, HB2.out⟩
        case measure => simp [intOf]; omega
      · subst h5
        go_wp2_with fail
        go_roundw
        case rel => exact ⟨k + 1, by omega, by go_num, HB2.out⟩
        case measure => simp [intOf]; omega
    · have hkk : k = E.length := by omega
      subst hkk
      go_wp2_with fail
      refine (cloneE_any A c E wr ((HE.out.below HB.out).more HB.out.size) (by omega) HNIL.out).mono ?_
      rintro e w2 ⟨A2, cc, rfl, hs2, hl2, hm2, hb2⟩
      have HB2 := Lib.hid (HB.out.trans (hb2.mono HB.out.size))
      clear hb2
      have hokk : ∀ e ∈ E, 0 ≤ e.frm ∧ e.frm < n ∧ 0 ≤ e.dst ∧ e.dst < n := fun e he => ⟨(HOK.out e he).1, (HOK.out e he).2.1, (HOK.out e he).2.2.1, (HOK.out e he).2.2.2.1⟩
      have hbuild := build_any n A2 cc E w2 hn hE hs2 hl2 hm2 hokk
      have HBD := Lib.hid hbuild
      clear hokk hbuild hs2
      go_wp2_with fail
      refine HBD.out.mono ?_
      rintro e w3 ⟨p, rfl, hg, hp, hb3⟩
      have hz2 := HB2.out.size
      have HB3 := Lib.hid (HB2.out.trans (hb3.mono hz2))
      have HG := Lib.hid hg
      clear hb3 hg
      go_wp2_with fail
      go_ret2
      exact ⟨p, rfl, HG.out, by omega, HB3.out⟩

theorem edges_any (w : World) (B p n : Nat) (E : List EdgeT) (h : GraphAt w B p n E) :
    Calls Tryd.prog 101 #[.pointer (some ⟨p, 0, none⟩)] w fun e w' => e = .returned (.int .i64 E.length) ∧ w = w' := by
  obtain ⟨A, c, c0, _⟩ := h.edges
  go_enter Tryd.func101, Tryd.ntmps101
  go_wp2_with fail
  go_ret
  exact ⟨rfl, rfl⟩
end
section
open Go.RowKit Go.Maps

/-- Nodes. -/
theorem nodes_any (w : World) (B p n : Nat) (E : List EdgeT) (h : GraphAt w B p n E) :
    Calls Tryd.prog 94 #[.pointer (some ⟨p, 0, none⟩)] w fun e w' => e = .returned (.int .i64 n) ∧ w = w' := by
  obtain ⟨ob, _, c1, _⟩ := h.out
  go_enter Tryd.func94, Tryd.ntmps94
  go_wp2_with fail
  go_ret
  exact ⟨rfl, rfl⟩
theorem isNode_any (w : World) (B p n : Nat) (E : List EdgeT) (h : GraphAt w B p n E) (x : Int) :
    Calls Tryd.prog 95 #[.pointer (some ⟨p, 0, none⟩), .int .i64 x] w fun e w' => e = .returned (.bool (decide (0 ≤ x ∧ x < n))) ∧ w = w' := by
  have hnodes := nodes_any w B p n E h
  by_cases h0 : 0 ≤ x
  · have d0 : decide (0 ≤ x) = true := by simpa using h0
    go_enter Tryd.func95, Tryd.ntmps95
    go_wp2_with fail
    refine hnodes.mono ?_
    rintro e w' ⟨rfl, rfl⟩
    go_wp2_with fail
    go_ret
    exact ⟨ret_bool (by simp [h0]), rfl⟩
  · have d0 : decide (0 ≤ x) = false := by simpa using h0
    go_enter Tryd.func95, Tryd.ntmps95
    go_wp2_with fail
    go_ret
    exact ⟨ret_bool (by simp), rfl⟩
end
section
open Go.RowKit Go.Maps

theorem i64_info : (Tryd.prog.info? 2).map (fun i => (i.zero, i.size, i.bytes)) = some (some (.int .i64 0), 1, 8) := by kernel_rfl

/-- what existed is as it was, but for the blocks of which S holds. -/
structure Only (S : Nat → Prop) (w w' : World) : Prop where
  os : w'.os = w.os
  tape : w'.tape = w.tape
  output : w'.output = w.output
  size : w.heap.size ≤ w'.heap.size
  block : ∀ k, k < w.heap.size → ¬ S k → w'.heap[k]? = w.heap[k]?
section
variable {S S' : Nat → Prop} {w w1 w2 : World}
theorem Only.refl : Only S w w := ⟨rfl, rfl, rfl, Nat.le_refl _, fun _ _ _ => rfl⟩
theorem Only.trans (h : Only S w w1) (k : Only S' w1 w2) (hS : ∀ j, j < w.heap.size → S' j → S j) : Only S w w2 :=
  ⟨k.os.trans h.os, k.tape.trans h.tape, k.output.trans h.output, Nat.le_trans h.size k.size, fun j hj hn => (k.block j (Nat.lt_of_lt_of_le hj h.size) (fun e => hn (hS j hj e))).trans (h.block j hj hn)⟩
theorem Only.mono (h : Only S w w1) (hS : ∀ j, j < w.heap.size → S j → S' j) : Only S' w w1 := ⟨h.os, h.tape, h.output, h.size, fun j hj hn => h.block j hj (fun e => hn (hS j hj e))⟩
theorem Only.below (h : Only S w w1) {B : Nat} (hB : B ≤ w.heap.size) (hS : ∀ j, S j → B ≤ j) : Below B w w1 := ⟨h.os, h.tape, h.output, h.size, fun j hj => h.block j (Nat.lt_of_lt_of_le hj hB) (fun e => by have := hS j e; omega)⟩
theorem Only.of_below (h : Below w.heap.size w w1) : Only S w w1 := ⟨h.os, h.tape, h.output, h.size, fun j hj _ => h.block j hj⟩
theorem Only.of_grown {row : Option Nat} (h : w.grownBy w1 row) (hS : ∀ j, row = some j → S j) : Only S w w1 := ⟨h.os, h.tape, h.output, h.size, fun j hj hn => h.block j hj (fun e => hn (hS j e.symm))⟩
theorem Only.cell (h : Only S w w1) {a : Addr} (hl : a.block < w.heap.size) (hn : ¬ S a.block) : w1.cell? a = w.cell? a := by
  unfold World.cell?
  rw [h.block _ hl hn]
theorem Only.frozen (h : Only S w w1) {a : Addr} (hl : a.block < w.heap.size) (hn : ¬ S a.block) : w1.frozen? a = w.frozen? a := by
  unfold World.frozen?
  rw [h.block _ hl hn]
theorem Only.drew (h : Only S w w1) : Only S w w1.drew := ⟨h.os, h.tape, h.output, h.size, h.block⟩
theorem Only.drewN (h : Only S w w1) (n : Nat) : Only S w (w1.drewN n) := ⟨h.os, h.tape, h.output, h.size, h.block⟩
theorem Only.setCell (h : Only S w w1) {a : Addr} (hS : a.block < w.heap.size → S a.block) (v : Value) : Only S w (w1.setCell a v) := by
  refine ⟨h.os, h.tape, h.output, by simpa using h.size, fun j hj hn => ?_⟩
  exact (Below.heap_setCell w1 a v j (fun e => hn (by rw [e]; exact hS (by rw [← e]; exact hj)))).trans (h.block j hj hn)
end

/-- 'append(row, z)' at the operation, the new slice written out. -/
theorem wpList_append_intL {P : Program} (w : World) {ops : Array Oper} {rest : List Oper} {o : Oper} {a : Act} {Q : Exit → Act → World → Prop} (hgd : o.guard = none) (s x : Operand) (t : TypeId)
    (ho : o.op = .call { callee := .builtin .append, args := #[s, x], argTypes := #[t, t] })
    (base : Nat) (e : TypeId) (ht : P.underlying t = some (.slice e)) (hinfo : (P.info? e).map (fun i => (i.zero, i.size, i.bytes)) = some (some (.int .i64 0), 1, 8))
    (v : Value) (zs : List Int) (w0 : World) (z : Int) (hw : w = w0.alloc (.cells #[.int .i64 z] e)) (hs : a.eval s = v) (hown : OwnI w0 base e v zs) (N : Nat) (hx : a.eval x = .slice (some ⟨N, 0, none⟩) 1 1) (hN : N = w0.heap.size) (hlen : zs.length + 1 ≤ 4398046511104) (hbase : base ≤ w0.heap.size)
    (h : ∀ g cap w', OwnI w' base e (.slice (some ⟨g, 0, none⟩) (zs.length + 1) cap) (zs ++ [z]) → w0.grownBy w' v.ownBlock → (v.ownBlock = some g ∨ w0.heap.size ≤ g) → wpList P ops Q rest (a.put o.dst (.slice (some ⟨g, 0, none⟩) (zs.length + 1) cap)) w') :
    wpList P ops Q (o :: rest) a w := by
  obtain ⟨i0, hi, hz1, hz2, hz3⟩ := info_parts hinfo
  subst hw hN
  refine wpList_append_lies _ hgd s x t ho base e i0 (.int .i64 0) 1 8 ht hi hz1 hz2 hz3 rfl (by decide) v zs.length (zs.map (Value.int .i64)) hs (World.ownsRow.alloc hown _) ⟨w0.heap.size, 0, none⟩ 1 1 [.int .i64 z] hx rfl (cell_one_new _ _ _) (by intro u hu; simp at hu; subst hu; rfl) (by decide) (by unfold maxLen; omega) (by omega) (by simp; omega) _ rfl ?_
  intro g cap w' h1 h2 h3 _
  refine h g cap w' ?_ ((World.grownBy_alloc w0 _ _).trans h2) ?_
  · unfold OwnI OwnV
    simpa using h1
  · rcases h3 with h3 | h3
    · exact .inl h3
    · right
      rw [h3]
      simp

theorem grown_frozen {w w' : World} {row : Option Nat} (hg : w.grownBy w' row) {a : Addr} (hl : a.block < w.heap.size) (hne : row ≠ some a.block) : w'.frozen? a = w.frozen? a := by
  have h := hg.block a.block hl (fun e => hne e.symm)
  unfold World.frozen?
  rw [h]

/-- the two places of a row exchanged. -/
def swapAt (zs : List Int) (i j : Nat) (x y : Int) : List Int := (zs.set i y).set j x
theorem swap_perm {zs : List Int} {i j : Nat} {x y : Int} (hi : zs[i]? = some x) (hj : zs[j]? = some y) : (swapAt zs i j x y).Perm zs := by
  unfold swapAt
  have hil := (List.getElem?_eq_some_iff.1 hi).1
  have hjl := (List.getElem?_eq_some_iff.1 hj).1
  by_cases e : i = j
  · subst e
    rw [hi] at hj
    injection hj with hj
    subst hj
    rw [List.set_set]
    have : zs.set i x = zs := by
      apply List.ext_getElem?
      intro k
      rw [List.getElem?_set]
      split
      · rename_i h
        subst h
        exact hi.symm
      · rfl
    rw [this]
  · have h1 : (zs.set i y).set j x = (zs.set i zs[j]).set j zs[i] := by
      rw [(List.getElem?_eq_some_iff.1 hi).2, (List.getElem?_eq_some_iff.1 hj).2]
    rw [h1]
    exact List.set_set_perm hil hjl

theorem OwnV.read {α : Type} {f : α → Value} {w : World} {base : Nat} {e : TypeId} {g n c : Nat} {zs : List α} (h : OwnV f w base e (.slice (some ⟨g, 0, none⟩) n c) zs) {k : Nat} {z : α} (hz : zs[k]? = some z) : w.cell? ⟨g, k, none⟩ = some (f z) ∧ w.frozen? ⟨g, k, none⟩ = false := by
  obtain ⟨g', c', hv, _, _, hc, hf⟩ := h.form hz
  injection hv with h1
  injection h1 with h1
  injection h1 with h1
  subst h1
  exact ⟨hc, hf⟩

theorem OwnV.stored2 {w : World} {base : Nat} {e : TypeId} {g n c : Nat} {zs : List Int} (h : OwnI w base e (.slice (some ⟨g, 0, none⟩) n c) zs) (i j : Nat) {x y : Int} : OwnI ((w.setCell ⟨g, i, none⟩ (.int .i64 y)).setCell ⟨g, j, none⟩ (.int .i64 x)) base e (.slice (some ⟨g, 0, none⟩) n c) (swapAt zs i j x y) := (OwnV.stored h i y).stored j x
theorem take_swap {Z : List Int} {i j N : Nat} {x y : Int} (hi : Z[i]? = some x) (hj : Z[j]? = some y) (h1 : i < N) (h2 : j < N) : ((swapAt Z i j x y).take N).Perm (Z.take N) := by
  have e : (swapAt Z i j x y).take N = swapAt (Z.take N) i j x y := by
    unfold swapAt
    rw [List.take_set, List.take_set]
  rw [e]
  refine swap_perm ?_ ?_
  · rw [List.getElem?_take, if_pos h1]
    exact hi
  · rw [List.getElem?_take, if_pos h2]
    exact hj

/-- the queue variable at block qb holds a slice v that owns the numbers zs. -/
structure QueueAt (w : World) (base qb : Nat) (v : Value) (zs : List Int) : Prop where
  cell : w.cell? ⟨qb, 0, none⟩ = some v
  froz : w.frozen? ⟨qb, 0, none⟩ = false
  own : OwnI w base 2 v zs
  low : qb < base
  room : base ≤ w.heap.size

def RetPush (w : World) (base qb : Nat) (v : Value) (zs : List Int) (x : Int) (e : Ending) (w' : World) : Prop :=
  e = .returned (.tuple #[]) ∧ ∃ v' zs', QueueAt w' base qb v' zs' ∧ zs'.Perm (zs ++ [x]) ∧ Only (fun k => k = qb ∨ v.ownBlock = some k) w w' ∧ (v'.ownBlock = v.ownBlock ∨ ∀ g, v'.ownBlock = some g → w.heap.size ≤ g)

set_option maxRecDepth 100000 in
set_option maxHeartbeats 4000000 in
theorem push_any (w : World) (base qb : Nat) (v : Value) (zs : List Int) (d : Int) (x : Nat) (hq : QueueAt w base qb v zs) (hl : zs.length ≤ 1099511627776) (hd : 0 ≤ d) (hd2 : d ≤ 1099511627776) (hx : x < 4096) :
    Calls Tryd.prog 96 #[.pointer (some ⟨qb, 0, none⟩), .int .i64 d, .int .i64 (x : Int)] w (RetPush w base qb v zs (d * 4096 + x)) := by
  have hcq := hq.cell
  have hown := hq.own
  have hroom := hq.room
  have HQ := Lib.hid hq
  have hlen : zs.length + 1 ≤ 4398046511104 := by omega
  clear hq
  go_enter Tryd.func96, Tryd.ntmps96
  go_wp2_with (at_builtin; refine wpList_append_intL _ rfl (.tmp 10) (.tmp 15) 156 rfl base 2 Tryd.underlying156 i64_info v zs w (d * 4096 + x) rfl rfl hown _ rfl rfl hlen hroom ?_; intro g cap w2 hown2 hg hat)
  have hg1 : base ≤ g := hown2.ge_base g rfl
  have HST : Hid (∃ zs' : List Int, zs'.length = zs.length + 1 ∧ zs'.Perm (zs ++ [d * 4096 + x]) ∧ OwnI w2 base 2 (.slice (some ⟨g, 0, none⟩) (zs.length + 1) cap) zs' ∧ Only (fun k => k = g) w2 w2) := Lib.hid ⟨_, by simp, List.Perm.refl _, hown2, Only.refl⟩
  have HG := Lib.hid hg
  have HA := Lib.hid hat
  clear hown2 hg hat hown hcq
  go_loopw [7] (fun iv wr => ∃ j : Nat, j < zs.length + 1 ∧ iv = .int .i64 j ∧ ∃ zs' : List Int, zs'.length = zs.length + 1 ∧ zs'.Perm (zs ++ [d * 4096 + x]) ∧ OwnI wr base 2 (.slice (some ⟨g, 0, none⟩) (zs.length + 1) cap) zs' ∧ Only (fun k => k = g) w2 wr) (fun i _ => (intOf i).toNat)
  case atStart => exact ⟨zs.length, by omega, by go_num, HST.out⟩
  case round =>
    obtain ⟨j, hj, rfl, zs', hl', hperm, hown, honly⟩ := hrel
    have HL := Lib.hid hl'
    have HP := Lib.hid hperm
    have HO := Lib.hid honly
    have HOWN := Lib.hid hown
    have hqz : qb < w.heap.size := by have := HQ.out.low; omega
    have hqw : w2.cell? ⟨qb, 0, none⟩ = some v := (grown_cell HG.out (a := ⟨qb, 0, none⟩) hqz (fun q => by have := HQ.out.own.ge_base qb q; have := HQ.out.low; omega)).trans HQ.out.cell
    have hqf : w2.frozen? ⟨qb, 0, none⟩ = false := (grown_frozen HG.out (a := ⟨qb, 0, none⟩) hqz (fun q => by have := HQ.out.own.ge_base qb q; have := HQ.out.low; omega)).trans HQ.out.froz
    have hqz2 : qb < w2.heap.size := by have := HG.out.size; omega
    have hqg : ¬ qb = g := by have := HQ.out.low; omega
    have cq : wr.cell? ⟨qb, 0, none⟩ = some v := (HO.out.cell (a := ⟨qb, 0, none⟩) hqz2 hqg).trans hqw
    have fq : wr.frozen? ⟨qb, 0, none⟩ = false := (HO.out.frozen (a := ⟨qb, 0, none⟩) hqz2 hqg).trans hqf
    clear hqw hqf
    -- leaving the loop
    have HEND : Hid (∀ q, RetPush w base qb v zs (d * 4096 + x) (.returned (.tuple #[])) ((wr.drewN q).setCell ⟨qb, 0, none⟩ (.slice (some ⟨g, 0, none⟩) (zs.length + 1) cap))) := by
      show ∀ q, _
      intro q
      refine ⟨rfl, .slice (some ⟨g, 0, none⟩) (zs.length + 1) cap, zs', ⟨?_, ?_, ?_, HQ.out.low, ?_⟩, HP.out, ?_, ?_⟩
      · exact World.cell?_setCell_same' _ _ _ (by show (wr.cell? _).isSome = true; rw [cq]; rfl)
      · rw [World.frozen?_setCell]
        exact fq
      · exact (HOWN.out.drewN q).setCell_below HQ.out.low _
      · have h1 := HO.out.size
        have h2 := HG.out.size
        show base ≤ ((wr.drewN q).setCell _ _).heap.size
        simp
        show base ≤ wr.heap.size
        omega
      · refine Only.setCell (Only.drewN (Only.trans (S' := fun k => k = g) (Only.of_grown HG.out (fun j hj => .inr hj)) HO.out ?_) q) (fun _ => .inl rfl) _
        intro j hj e
        subst e
        rcases HA.out with h | h
        · exact .inr h
        · omega
      · rcases HA.out with h | h
        · left
          rw [h]
          rfl
        · right
          intro g' hg'
          have : g = g' := by simpa [Value.ownBlock] using hg'
          omega
    cases j with
    | zero =>
      clear hl' hperm honly hown
      have d0 : decide ((0 : Int) < ((0 : Nat) : Int)) = false := by simp
      go_wp2_with fail
      go_quiet (fail)
      go_wp2_with fail
      go_end0
      exact HEND.out nq
    | succ m =>
      obtain ⟨y, hy⟩ : ∃ y, zs'[m + 1]? = some y := ⟨zs'[m + 1]'(by omega), by simp⟩
      obtain ⟨z, hz⟩ : ∃ z, zs'[m / 2]? = some z := ⟨zs'[m / 2]'(by omega), by simp⟩
      obtain ⟨cy, fy⟩ := hown.read hy
      obtain ⟨cz, fz⟩ := hown.read hz
      have HY := Lib.hid hy
      have HZ := Lib.hid hz
      clear hl' hperm honly hown hy hz
      have d0 : decide ((0 : Int) < ((m + 1 : Nat) : Int)) = true := by simp
      have hne : ¬ m + 1 = m / 2 := by omega
      have hne2 : ¬ m / 2 = m + 1 := by omega
      by_cases hyz : y < z
      · have d1 : decide (y < z) = true := by simpa using hyz
        go_wp2_with fail
        go_quiet (fail)
        go_wp2_with fail
        go_region
        go_wp2_with fail
        go_roundw
        case rel =>
          refine ⟨m / 2, by omega, by go_num, swapAt zs' (m + 1) (m / 2) y z, ?_, (swap_perm HY.out HZ.out).trans HP.out, ((HOWN.out.drewN (nq + 1)).stored (m + 1) z).stored (m / 2) y, ?_⟩
          · unfold swapAt
            rw [List.length_set, List.length_set]
            exact HL.out
          · exact (((HO.out.drewN (nq + 1)).setCell (fun _ => rfl) _).setCell (fun _ => rfl) _)
        case measure => simp [intOf]; omega
      · have d1 : decide (y < z) = false := by simpa using hyz
        go_wp2_with fail
        go_quiet (fail)
        go_wp2_with fail
        go_end0
        exact HEND.out nq

theorem OwnV.shorter {α : Type} {f : α → Value} {w : World} {base : Nat} {e : TypeId} {g n c : Nat} {zs : List α} (h : OwnV f w base e (.slice (some ⟨g, 0, none⟩) n c) zs) {m : Nat} (hm : m ≤ zs.length) : OwnV f w base e (.slice (some ⟨g, 0, none⟩) m c) (zs.take m) := by
  obtain ⟨h1, h2⟩ := h
  have hlm : (zs.take m).length = m := by rw [List.length_take]; omega
  refine ⟨by rw [List.length_map, Nat.mul_one], ?_⟩
  rcases h2 with ⟨e1, _⟩ | ⟨g', cap, cur, e1, h3, h4, h5, h6, h7, h8⟩
  · cases e1
  · injection e1 with e1 e2 e3
    injection e1 with e1
    injection e1 with e1
    subst e1 e3
    refine .inr ⟨g, c, cur, by rw [hlm], h3, h4, by omega, h6, h7, ?_⟩
    rw [hlm, Nat.mul_one, List.map_take, ← h8, List.take_take, Nat.mul_one, Nat.min_eq_left hm]
theorem first_out {zs : List Int} {x y : Int} (hx : zs[0]? = some x) (hy : zs[zs.length - 1]? = some y) : zs.Perm (x :: (zs.set 0 y).take (zs.length - 1)) := by
  cases zs with
  | nil => simp at hx
  | cons a t =>
    simp only [List.getElem?_cons_zero, Option.some.injEq] at hx
    subst hx
    cases t with
    | nil => simp
    | cons b t =>
      have hl : (a :: b :: t).length - 1 = t.length + 1 := by simp
      rw [hl] at hy ⊢
      have hy2 : (b :: t)[t.length]? = some y := by simpa using hy
      have e : b :: t = (b :: t).take t.length ++ [y] := by
        have hk := (List.getElem?_eq_some_iff.1 hy2).1
        have h2 := List.take_succ_eq_append_getElem hk
        rw [(List.getElem?_eq_some_iff.1 hy2).2] at h2
        rw [← h2]
        exact (List.take_of_length_le (by simp)).symm
      have e2 : ((a :: b :: t).set 0 y).take (t.length + 1) = y :: (b :: t).take t.length := by simp
      rw [e2]
      refine List.Perm.cons a ?_
      conv => lhs; rw [e]
      exact List.perm_append_singleton y _

def RetPop (w : World) (base qb : Nat) (v : Value) (zs : List Int) (e : Ending) (w' : World) : Prop :=
  ∃ x v' zs', e = .returned (.tuple #[.int .i64 (x / 4096), .int .i64 (x % 4096)]) ∧ QueueAt w' base qb v' zs' ∧ zs.Perm (x :: zs') ∧ Only (fun k => k = qb ∨ v.ownBlock = some k) w w' ∧ v'.ownBlock = v.ownBlock

set_option maxRecDepth 100000 in
set_option maxHeartbeats 4000000 in
theorem pop_any (w : World) (base qb : Nat) (v : Value) (zs : List Int) (hq : QueueAt w base qb v zs) (h0 : 0 < zs.length) (hl : zs.length ≤ 1099511627776) (hp : ∀ z ∈ zs, 0 ≤ z ∧ z ≤ 9223372036854775807) :
    Calls Tryd.prog 99 #[.pointer (some ⟨qb, 0, none⟩)] w (RetPop w base qb v zs) := by
  obtain ⟨x, hx⟩ : ∃ x, zs[0]? = some x := ⟨zs[0], by simp⟩
  obtain ⟨y, hy⟩ : ∃ y, zs[zs.length - 1]? = some y := ⟨zs[zs.length - 1], by simp⟩
  obtain ⟨g, cap, hv, hg1, _, cx, fx⟩ := hq.own.form hx
  subst hv
  obtain ⟨cy, fy⟩ := hq.own.read hy
  obtain ⟨hx0, hx1⟩ := hp x (List.mem_of_getElem? hx)
  have hcaps := (caps_row hq.own).2
  have hcq := hq.cell
  have hfq := hq.froz
  have hqg : ¬ qb = g := by have := hq.low; omega
  have HQ := Lib.hid hq
  have HX := Lib.hid hx
  have HY := Lib.hid hy
  have hlI : ((zs.length - 1 : Nat) : Int) = (zs.length : Int) - 1 := by omega
  have HLI := Lib.hid hlI
  clear hq hx hy hp hlI
  go_enter Tryd.func99, Tryd.ntmps99
  go_wp2_with fail
  have hst : OwnI (w.setCell ⟨g, 0, none⟩ (.int .i64 y)) base 2 (.slice (some ⟨g, 0, none⟩) zs.length cap) (zs.set 0 y) := HQ.out.own.stored 0 y
  have HST : Hid (∃ Z : List Int, Z.length = zs.length ∧ zs.Perm (x :: Z.take (zs.length - 1)) ∧ OwnI (w.setCell ⟨g, 0, none⟩ (.int .i64 y)) base 2 (.slice (some ⟨g, 0, none⟩) zs.length cap) Z ∧ Only (fun k => k = g) w (w.setCell ⟨g, 0, none⟩ (.int .i64 y))) := Lib.hid ⟨_, by simp, first_out HX.out HY.out, hst, Only.setCell (S := fun k => k = g) Only.refl (fun _ => rfl) _⟩
  obtain ⟨N, hN⟩ : ∃ N, N = zs.length - 1 := ⟨_, rfl⟩
  have hN1 : N + 1 = zs.length := by omega
  rw [← hN] at HST ⊢
  rw [show (zs.length : Int) - 1 = (N : Int) by omega]
  have HN1 := Lib.hid hN1
  have hNl : N ≤ 1099511627776 := by omega
  clear hst cx fx cy fy hN hN1 HLI HX HY
  generalize w.setCell ⟨g, 0, none⟩ (.int .i64 y) = w2 at *
  go_loopw [7] (fun iv wr => ∃ j : Nat, (j = 0 ∨ j < N) ∧ iv = .int .i64 j ∧ ∃ Z : List Int, Z.length = zs.length ∧ zs.Perm (x :: Z.take N) ∧ OwnI wr base 2 (.slice (some ⟨g, 0, none⟩) zs.length cap) Z ∧ Only (fun k => k = g) w wr) (fun i _ => N - (intOf i).toNat)
  case atStart => exact ⟨0, .inl rfl, rfl, HST.out⟩
  case round =>
    obtain ⟨j, hj, rfl, Z, hZl, hperm, hown, honly⟩ := hrel
    have hjN : j ≤ N := by omega
    have HL := Lib.hid hZl
    have HP := Lib.hid hperm
    have HO := Lib.hid honly
    have HOWN := Lib.hid hown
    clear hZl hperm honly hown HST
    have hqz : qb < w.heap.size := by have := HQ.out.low; have := HQ.out.room; omega
    have cq : wr.cell? ⟨qb, 0, none⟩ = some (.slice (some ⟨g, 0, none⟩) zs.length cap) := (HO.out.cell (a := ⟨qb, 0, none⟩) hqz hqg).trans HQ.out.cell
    have fq : wr.frozen? ⟨qb, 0, none⟩ = false := (HO.out.frozen (a := ⟨qb, 0, none⟩) hqz hqg).trans HQ.out.froz
    have HEND : Hid (∀ q, RetPop w base qb (.slice (some ⟨g, 0, none⟩) zs.length cap) zs (.returned (.tuple #[.int .i64 (x / 4096), .int .i64 (x % 4096)])) ((wr.drewN q).setCell ⟨qb, 0, none⟩ (.slice (some ⟨g, 0, none⟩) N cap))) := by
      show ∀ q, _
      intro q
      refine ⟨x, .slice (some ⟨g, 0, none⟩) N cap, Z.take N, rfl, ⟨?_, ?_, ?_, HQ.out.low, ?_⟩, HP.out, ?_, rfl⟩
      · exact World.cell?_setCell_same' _ _ _ (by show (wr.cell? _).isSome = true; rw [cq]; rfl)
      · rw [World.frozen?_setCell]
        exact fq
      · exact ((HOWN.out.drewN q).shorter (by rw [HL.out, ← HN1.out]; omega)).setCell_below HQ.out.low _
      · have h1 := HO.out.size
        have h2 := HQ.out.room
        show base ≤ ((wr.drewN q).setCell _ _).heap.size
        simp
        show base ≤ wr.heap.size
        omega
      · exact Only.setCell (Only.drewN (HO.out.mono (fun j _ e => by subst e; exact .inr rfl)) q) (fun _ => .inl rfl) _
    by_cases hc : 2 * j + 1 < N
    · have d1 : decide ((N : Int) ≤ 2 * (j : Int) + 1) = false := by simp; omega
      by_cases hc2 : 2 * j + 1 + 1 < N
      · have d2 : decide (2 * (j : Int) + 1 + 1 < (N : Int)) = true := by simp; omega
        obtain ⟨r, hr⟩ : ∃ r, Z[2 * j + 1 + 1]? = some r := ⟨Z[2 * j + 1 + 1]'(by rw [HL.out, ← HN1.out]; omega), by simp⟩
        obtain ⟨l, hll⟩ : ∃ l, Z[2 * j + 1]? = some l := ⟨Z[2 * j + 1]'(by rw [HL.out, ← HN1.out]; omega), by simp⟩
        obtain ⟨cr, fr⟩ := HOWN.out.read hr
        obtain ⟨cl, fl⟩ := HOWN.out.read hll
        have HRR := Lib.hid hr
        have HLL := Lib.hid hll
        clear hr hll
        by_cases hrl : r < l
        · have d3 : decide (r < l) = true := by simpa using hrl
          obtain ⟨a, ha⟩ : ∃ a, Z[j]? = some a := ⟨Z[j]'(by rw [HL.out, ← HN1.out]; omega), by simp⟩
          obtain ⟨ca, fa⟩ := HOWN.out.read ha
          have HAA := Lib.hid ha
          clear ha
          have hne : ¬ j = 2 * j + 1 + 1 := by omega
          have hne2 : ¬ 2 * j + 1 + 1 = j := by omega
          by_cases hab : a ≤ r
          · have d5 : decide (a ≤ r) = true := by simpa using hab
            go_wp2_with fail
            go_quiet (fail)
            go_wp2_with fail
            go_quiet (fail)
            go_wp2_with fail
            go_ret2
            exact HEND.out _
          · have d5 : decide (a ≤ r) = false := by simpa using hab
            go_wp2_with fail
            go_quiet (fail)
            go_wp2_with fail
            go_quiet (fail)
            go_wp2_with fail
            go_region
            go_wp2_with fail
            go_roundw
            case rel =>
              refine ⟨2 * j + 1 + 1, .inr (by omega), by go_num, swapAt Z j (2 * j + 1 + 1) a r, ?_, ?_, OwnV.stored2 (HOWN.out.drewN _) j (2 * j + 1 + 1), ?_⟩
              · unfold swapAt
                rw [List.length_set, List.length_set]
                exact HL.out
              · exact HP.out.trans (List.Perm.cons x (take_swap HAA.out HRR.out (by omega) (by omega)).symm)
              · exact (((HO.out.drewN _).setCell (fun _ => rfl) _).setCell (fun _ => rfl) _)
            case measure => simp [intOf]; omega
        · have d3 : decide (r < l) = false := by simpa using hrl
          obtain ⟨a, ha⟩ : ∃ a, Z[j]? = some a := ⟨Z[j]'(by rw [HL.out, ← HN1.out]; omega), by simp⟩
          obtain ⟨ca, fa⟩ := HOWN.out.read ha
          have HAA := Lib.hid ha
          clear ha
          have hne : ¬ j = 2 * j + 1 := by omega
          have hne2 : ¬ 2 * j + 1 = j := by omega
          by_cases hab : a ≤ l
          · have d5 : decide (a ≤ l) = true := by simpa using hab
            go_wp2_with fail
            go_quiet (fail)
            go_wp2_with fail
            go_quiet (fail)
            go_wp2_with fail
            go_ret2
            exact HEND.out _
          · have d5 : decide (a ≤ l) = false := by simpa using hab
            go_wp2_with fail
            go_quiet (fail)
            go_wp2_with fail
            go_quiet (fail)
            go_wp2_with fail
            go_region
            go_wp2_with fail
            go_roundw
            case rel =>
              refine ⟨2 * j + 1, .inr (by omega), by go_num, swapAt Z j (2 * j + 1) a l, ?_, ?_, OwnV.stored2 (HOWN.out.drewN _) j (2 * j + 1), ?_⟩
              · unfold swapAt
                rw [List.length_set, List.length_set]
                exact HL.out
              · exact HP.out.trans (List.Perm.cons x (take_swap HAA.out HLL.out (by omega) (by omega)).symm)
              · exact (((HO.out.drewN _).setCell (fun _ => rfl) _).setCell (fun _ => rfl) _)
            case measure => simp [intOf]; omega
      · have d2 : decide (2 * (j : Int) + 1 + 1 < (N : Int)) = false := by simp; omega
        obtain ⟨a, ha⟩ : ∃ a, Z[j]? = some a := ⟨Z[j]'(by rw [HL.out, ← HN1.out]; omega), by simp⟩
        obtain ⟨b, hb⟩ : ∃ b, Z[2 * j + 1]? = some b := ⟨Z[2 * j + 1]'(by rw [HL.out, ← HN1.out]; omega), by simp⟩
        obtain ⟨ca, fa⟩ := HOWN.out.read ha
        obtain ⟨cb, fb⟩ := HOWN.out.read hb
        have HAA := Lib.hid ha
        have HBB := Lib.hid hb
        clear ha hb
        have hne : ¬ j = 2 * j + 1 := by omega
        have hne2 : ¬ 2 * j + 1 = j := by omega
        by_cases hab : a ≤ b
        · have d5 : decide (a ≤ b) = true := by simpa using hab
          go_wp2_with fail
          go_quiet (fail)
          go_wp2_with fail
          go_quiet (fail)
          go_wp2_with fail
          go_ret2
          exact HEND.out _
        · have d5 : decide (a ≤ b) = false := by simpa using hab
          go_wp2_with fail
          go_quiet (fail)
          go_wp2_with fail
          go_quiet (fail)
          go_wp2_with fail
          go_region
          go_wp2_with fail
          go_roundw
          case rel =>
            refine ⟨2 * j + 1, .inr (by omega), by go_num, swapAt Z j (2 * j + 1) a b, ?_, ?_, OwnV.stored2 (HOWN.out.drewN _) j (2 * j + 1), ?_⟩
            · unfold swapAt
              rw [List.length_set, List.length_set]
              exact HL.out
            · exact HP.out.trans (List.Perm.cons x (take_swap HAA.out HBB.out (by omega) (by omega)).symm)
            · exact (((HO.out.drewN _).setCell (fun _ => rfl) _).setCell (fun _ => rfl) _)
          case measure => simp [intOf]; omega
    · have d1 : decide ((N : Int) ≤ 2 * (j : Int) + 1) = true := by simp; omega
      go_wp2_with fail
      go_ret2
      exact HEND.out 0
end
end Go.Proofs.YtimijjhdgihobaaDoor
