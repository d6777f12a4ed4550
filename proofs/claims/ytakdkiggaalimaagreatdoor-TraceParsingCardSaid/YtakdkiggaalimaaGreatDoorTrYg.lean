/-
  samaritanref51: what guess returns, and small facts (printed by gentrxm.py).
  samaritanref51: Only (printed by gentrxs2.py).
  samaritanref51: Only (printed by gentrxs2.py).
  samaritanref51: Right (printed by gentrxu.py).
  samaritanref51: Text (printed by gentrxv.py).
-/
import Derived.Test.YtakdkiggaalimaaGreatDoorTrXh
import Derived.Test.YtakdkiggaalimaaGreatDoorTrXd
import Derived.Test.YtakdkiggaalimaaGreatDoorTrPc
import Derived.OrdersHeld
import Derived.Deep.RegionHeld3
import Derived.Test.YtakdkiggaalimaaGreatDoorTrYa
import Derived.Test.YtakdkiggaalimaaGreatDoorTrRe
import Derived.Test.YtakdkiggaalimaaGreatDoorTrFs
import Derived.Test.YtakdkiggaalimaaGreatDoorTrYf
import Derived.RegionTactic
import Derived.ChangeAlike
import Derived.BigRegion
import Derived.Deep.MidRow
namespace Go.Proofs.YtakdkiggaalimaaGreatDoor
section
open Go.RowKit Go.Maps

theorem Blk.next {X Y : World} {b : Nat} {T : TypeId} {cs : List Value} (h : Blk X b T cs) (hb : Below X.heap.size X Y) : Blk Y b T cs := (hb.block b h.lt).trans h
theorem kindR_yes {nm : Int → Wd} {x : Wd} {m : Nat} (h : nm ((m : Int) + 1) = x) : kindR nm x (m + 1) = (m : Int) + 1 := by
  rw [kindR, if_pos h]
theorem kindR_no {nm : Int → Wd} {x : Wd} {m : Nat} (h : ¬ nm ((m : Int) + 1) = x) : kindR nm x (m + 1) = kindR nm x m := by
  rw [kindR, if_neg h]
theorem guess_kind {ws : List Wd} {x : Wd} {r : List Wd} (h : ws = x :: r) {k : Int} (hk : kindR actN x 19 = k) : guessA ws = guessK k ws := by
  rw [← hk, h]
  rfl
theorem bs_lists {a b : Wd} : (bs a).toList = (bs b).toList ↔ a = b := by
  rw [ByteArray.toList_eq, ByteArray.toList_eq, bs_data, bs_data]
theorem below_setR {B : Nat} {w X : World} (h : Below B w X) {g : Nat} (hg : B ≤ g) (cs : Array Value) : Below B w (X.setRow g cs) :=
  ⟨h.os, h.tape, h.output, by simpa using h.size, fun k hk => (setRow_other X g k cs (by omega)).trans (h.block k hk)⟩
/-- what guess returns. -/
def RetG (ws : List Wd) (w : World) (e : Ending) (w' : World) : Prop := ∃ a : ActM, e = .returned (actV a) ∧ a.con = guessA ws ∧ ActO w' w.heap.size a ∧ Below w.heap.size w w'
end
section
open Go.RowKit Go.Maps

theorem wpList_op {P : Program} {ops : Array Oper} {Q : Exit → Act → World → Prop} {o : Oper} {r : List Oper} {a : Act} {w : World} (x : Op) (_ho : o.op = x) (h : wpList P ops Q (o :: r) a w) : wpList P ops Q (o :: r) a w := h
theorem wpList_build_v {P : Program} {ops : Array Oper} {rest : List Oper} {o : Oper} {a : Act} {w : World} {Q : Exit → Act → World → Prop} (hg : o.guard = none) (t : TypeId) (parts : Array (Nat × Operand)) (ho : o.op = .build t parts) (D : Array Value) (vals : List (Nat × Value))
    (hv : (parts.map fun (i, x) => (i, a.eval x)).toList = vals) (hf : P.built t vals = some D) (h : wpList P ops Q rest (a.put o.dst (.agg D)) w) : wpList P ops Q (o :: rest) a w :=
  wpList_build_to hg t parts ho D (by rw [hv]; exact hf) h
theorem blk_range {X : World} {b : Nat} {T : TypeId} {cs : List Value} (h : Blk X b T cs) : X.rangeAt b 0 cs := fun j v hj => by
  have := h.cell hj
  simpa using this
theorem range_part {X : World} {b o : Nat} {cs ds : List Value} (h : X.rangeAt b 0 cs) (hd : ∀ j v, ds[j]? = some v → cs[o + j]? = some v) : X.rangeAt b o ds := fun j v hj => by
  have := h (o + j) v (hd j v hj)
  simpa using this
theorem blk_there {X : World} {b : Nat} {T : TypeId} {cs : List Value} (h : Blk X b T cs) {o n : Nat} (hn : o + n ≤ cs.length) : X.there b o n := fun j hj => by
  refine ⟨?_, h.free _⟩
  have e : cs[o + j]? = some (cs[o + j]'(by omega)) := by simp
  rw [h.cell e]
  rfl
theorem step_store_mid {P : Program} {ops : Array Oper} {o : Oper} {a : Act} {w : World} {K : Act → World → Prop} {Q : Exit → Act → World → Prop} {E : Prop} (hw : Region.wanted o (yielded ops a.tmps) = true) (ty : TypeId) (x y : Operand) (ho : o.op = .store ty x y)
    (b k : Nat) (cells : Array Value) (hx : a.eval x = .pointer (some ⟨b, k, none⟩)) (hy : a.eval y = .agg cells) (ht : w.there b k cells.size) (hi : (P.info? ty).map (·.size) = some cells.size) (h1 : cells.all (·.oneCell') = true)
    (W' : World) (hW : w.setCells b k cells.toList = W') (h : K (a.put o.dst undef) W') : if Region.wanted o (yielded ops a.tmps) = true then Oper.wp P o a w K Q else E := by
  rw [if_pos hw]
  exact wp_store_mid ty x y ho b k cells hx hy ht hi h1 (by rw [hW]; exact h)
theorem wpList_store_to {P : Program} {ops : Array Oper} {rest : List Oper} {o : Oper} {a : Act} {w : World} {Q : Exit → Act → World → Prop} (hg : o.guard = none) (ty : TypeId) (x y : Operand) (ho : o.op = .store ty x y)
    (b k : Nat) (cells : Array Value) (hx : a.eval x = .pointer (some ⟨b, k, none⟩)) (hy : a.eval y = .agg cells) (ht : w.there b k cells.size) (hi : (P.info? ty).map (·.size) = some cells.size) (h1 : cells.all (·.oneCell') = true)
    (W' : World) (hW : w.setCells b k cells.toList = W') (h : wpList P ops Q rest (a.put o.dst undef) W') : wpList P ops Q (o :: rest) a w :=
  wpList_store_mid hg ty x y ho b k cells hx hy ht hi h1 (by rw [hW]; exact h)
/-- what Only returns. -/
def RetOE (a : EvM) (B : Nat) (w : World) (e : Ending) (w' : World) : Prop := ∃ a' : EvM, e = .returned (evV a') ∧ a'.con = onlyE a.con ∧ EvAt w' B a' ∧ ActL a'.act ∧ Below w.heap.size w w'
/-- what Only lays before its switch. -/
structure OnPre (a : EvM) (w : World) (kk : Int) (C D0 : Array Value) (X1 : World) : Prop where
  v : evV a = .agg C
  c0 : C[0]? = some (.int .i64 kk)
  c1 : C[1]? = some (.int .i64 a.tick)
  bt : Tryz.prog.built 35 [(0, .int .i64 kk), (1, .int .i64 a.tick)] = some D0
  sz : (Tryz.prog.info? 35).map (·.size) = some D0.size
  one : D0.all (·.oneCell') = true
  old : (#[.int .i64 0, .int .i64 0, .int .i64 0, .int .i64 0, .int .i64 0, .int .i64 0, .int .i64 0, .int .i64 0, .slice none 0 0, .int .i64 0, .int .i64 0, .int .i64 0, .int .i64 0, .int .i64 0, .int .i64 0, .int .i64 0, .int .i64 0, .int .i64 0, .int .i64 0, .int .i64 0, .int .i64 0, .int .i64 0, .int .i64 0, .int .i64 0, .int .i64 0, .slice none 0 0, .slice none 0 0, .slice none 0 0] : Array Value).size = D0.size
  b1 : Blk X1 w.heap.size 35 (evCs a)
  b2 : Blk X1 (w.heap.size + 1) 35 [.int .i64 0, .int .i64 0, .int .i64 0, .int .i64 0, .int .i64 0, .int .i64 0, .int .i64 0, .int .i64 0, .slice none 0 0, .int .i64 0, .int .i64 0, .int .i64 0, .int .i64 0, .int .i64 0, .int .i64 0, .int .i64 0, .int .i64 0, .int .i64 0, .int .i64 0, .int .i64 0, .int .i64 0, .int .i64 0, .int .i64 0, .int .i64 0, .int .i64 0, .slice none 0 0, .slice none 0 0, .slice none 0 0]
  b3 : Blk X1 (w.heap.size + 1 + 1) 35 (evCs (EvM.zero kk a.tick))
  below : Below w.heap.size w X1
  oy : (((w.alloc (.cells C 35)).alloc (.cells #[.int .i64 0, .int .i64 0, .int .i64 0, .int .i64 0, .int .i64 0, .int .i64 0, .int .i64 0, .int .i64 0, .slice none 0 0, .int .i64 0, .int .i64 0, .int .i64 0, .int .i64 0, .int .i64 0, .int .i64 0, .int .i64 0, .int .i64 0, .int .i64 0, .int .i64 0, .int .i64 0, .int .i64 0, .int .i64 0, .int .i64 0, .int .i64 0, .int .i64 0, .slice none 0 0, .slice none 0 0, .slice none 0 0] 35)).alloc (.cells #[.int .i64 0, .int .i64 0, .int .i64 0, .int .i64 0, .int .i64 0, .int .i64 0, .int .i64 0, .int .i64 0, .slice none 0 0, .int .i64 0, .int .i64 0, .int .i64 0, .int .i64 0, .int .i64 0, .int .i64 0, .int .i64 0, .int .i64 0, .int .i64 0, .int .i64 0, .int .i64 0, .int .i64 0, .int .i64 0, .int .i64 0, .int .i64 0, .int .i64 0, .slice none 0 0, .slice none 0 0, .slice none 0 0] 35)).heap[w.heap.size + 1 + 1]? = some (.cells #[.int .i64 0, .int .i64 0, .int .i64 0, .int .i64 0, .int .i64 0, .int .i64 0, .int .i64 0, .int .i64 0, .slice none 0 0, .int .i64 0, .int .i64 0, .int .i64 0, .int .i64 0, .int .i64 0, .int .i64 0, .int .i64 0, .int .i64 0, .int .i64 0, .int .i64 0, .int .i64 0, .int .i64 0, .int .i64 0, .int .i64 0, .int .i64 0, .int .i64 0, .slice none 0 0, .slice none 0 0, .slice none 0 0] 35 (0, 0))
  sr : (((w.alloc (.cells C 35)).alloc (.cells #[.int .i64 0, .int .i64 0, .int .i64 0, .int .i64 0, .int .i64 0, .int .i64 0, .int .i64 0, .int .i64 0, .slice none 0 0, .int .i64 0, .int .i64 0, .int .i64 0, .int .i64 0, .int .i64 0, .int .i64 0, .int .i64 0, .int .i64 0, .int .i64 0, .int .i64 0, .int .i64 0, .int .i64 0, .int .i64 0, .int .i64 0, .int .i64 0, .int .i64 0, .slice none 0 0, .slice none 0 0, .slice none 0 0] 35)).alloc (.cells #[.int .i64 0, .int .i64 0, .int .i64 0, .int .i64 0, .int .i64 0, .int .i64 0, .int .i64 0, .int .i64 0, .slice none 0 0, .int .i64 0, .int .i64 0, .int .i64 0, .int .i64 0, .int .i64 0, .int .i64 0, .int .i64 0, .int .i64 0, .int .i64 0, .int .i64 0, .int .i64 0, .int .i64 0, .int .i64 0, .int .i64 0, .int .i64 0, .int .i64 0, .slice none 0 0, .slice none 0 0, .slice none 0 0] 35)).setRow (w.heap.size + 1 + 1) D0 = X1
set_option maxRecDepth 100000 in
theorem only_pre (a : EvM) (w : World) (kk : Int) (hkk : a.kind = kk) : ∃ C D0 X1, OnPre a w kk C D0 X1 := by
  obtain ⟨C, hC⟩ : ∃ C, C = (evCs a).toArray := ⟨_, rfl⟩
  obtain ⟨D0, hD0⟩ : ∃ D, D = (evCs (EvM.zero kk a.tick)).toArray := ⟨_, rfl⟩
  obtain ⟨W2, hW2⟩ : ∃ W2, W2 = (w.alloc (.cells C 35)).alloc (.cells #[.int .i64 0, .int .i64 0, .int .i64 0, .int .i64 0, .int .i64 0, .int .i64 0, .int .i64 0, .int .i64 0, .slice none 0 0, .int .i64 0, .int .i64 0, .int .i64 0, .int .i64 0, .int .i64 0, .int .i64 0, .int .i64 0, .int .i64 0, .int .i64 0, .int .i64 0, .int .i64 0, .int .i64 0, .int .i64 0, .int .i64 0, .int .i64 0, .int .i64 0, .slice none 0 0, .slice none 0 0, .slice none 0 0] 35) := ⟨_, rfl⟩
  have hsW2 : W2.heap.size = w.heap.size + 1 + 1 := by rw [hW2]; simp
  have hoy := new_obj W2 (.cells #[.int .i64 0, .int .i64 0, .int .i64 0, .int .i64 0, .int .i64 0, .int .i64 0, .int .i64 0, .int .i64 0, .slice none 0 0, .int .i64 0, .int .i64 0, .int .i64 0, .int .i64 0, .int .i64 0, .int .i64 0, .int .i64 0, .int .i64 0, .int .i64 0, .int .i64 0, .int .i64 0, .int .i64 0, .int .i64 0, .int .i64 0, .int .i64 0, .int .i64 0, .slice none 0 0, .slice none 0 0, .slice none 0 0] 35)
  have hsr := World.setRow_alloc_new W2 #[.int .i64 0, .int .i64 0, .int .i64 0, .int .i64 0, .int .i64 0, .int .i64 0, .int .i64 0, .int .i64 0, .slice none 0 0, .int .i64 0, .int .i64 0, .int .i64 0, .int .i64 0, .int .i64 0, .int .i64 0, .int .i64 0, .int .i64 0, .int .i64 0, .int .i64 0, .int .i64 0, .int .i64 0, .int .i64 0, .int .i64 0, .int .i64 0, .int .i64 0, .slice none 0 0, .slice none 0 0, .slice none 0 0] D0 35
  obtain ⟨X1, hX1⟩ : ∃ X1, X1 = W2.alloc (.cells D0 35) := ⟨_, rfl⟩
  have HBL : Blk X1 w.heap.size 35 (evCs a) ∧ Blk X1 (w.heap.size + 1) 35 [.int .i64 0, .int .i64 0, .int .i64 0, .int .i64 0, .int .i64 0, .int .i64 0, .int .i64 0, .int .i64 0, .slice none 0 0, .int .i64 0, .int .i64 0, .int .i64 0, .int .i64 0, .int .i64 0, .int .i64 0, .int .i64 0, .int .i64 0, .int .i64 0, .int .i64 0, .int .i64 0, .int .i64 0, .int .i64 0, .int .i64 0, .int .i64 0, .int .i64 0, .slice none 0 0, .slice none 0 0, .slice none 0 0] ∧ Blk X1 (w.heap.size + 1 + 1) 35 (evCs (EvM.zero kk a.tick)) ∧ Below w.heap.size w X1 := by
    obtain ⟨h1, h2⟩ := two_blk w (evCs a) [.int .i64 0, .int .i64 0, .int .i64 0, .int .i64 0, .int .i64 0, .int .i64 0, .int .i64 0, .int .i64 0, .slice none 0 0, .int .i64 0, .int .i64 0, .int .i64 0, .int .i64 0, .int .i64 0, .int .i64 0, .int .i64 0, .int .i64 0, .int .i64 0, .int .i64 0, .int .i64 0, .int .i64 0, .int .i64 0, .int .i64 0, .int .i64 0, .int .i64 0, .slice none 0 0, .slice none 0 0, .slice none 0 0] 35 35
    rw [← hC] at h1 h2
    have hb3 := below_new W2 (.cells D0 35)
    rw [← hX1] at hb3
    rw [hW2] at hb3
    have hn := new_obj W2 (.cells D0 35)
    rw [← hX1, hsW2, hD0] at hn
    refine ⟨?_, ?_, hn, ?_⟩
    · exact (hb3.block _ h1.lt).trans h1
    · exact (hb3.block _ h2.lt).trans h2
    · exact (((Below.refl _ _).alloc (Nat.le_refl _) _).alloc (by simp) _).trans (hb3.mono (by simp; omega))
  rw [← hX1, hsW2] at hsr
  rw [hsW2] at hoy
  rw [hW2] at hsr hoy
  exact ⟨C, D0, X1, by rw [hC]; rfl, by rw [hC, ← hkk]; rfl, by rw [hC]; rfl, by rw [hD0]; rfl, by rw [hD0]; exact ev_size, by rw [hD0]; exact evCs_one _, by rw [hD0]; rfl, HBL.1, HBL.2.1, HBL.2.2.1, HBL.2.2.2, hoy, hsr⟩
set_option maxRecDepth 100000 in
theorem z28_size (a : EvM) : (#[.int .i64 0, .int .i64 0, .int .i64 0, .int .i64 0, .int .i64 0, .int .i64 0, .int .i64 0, .int .i64 0, .slice none 0 0, .int .i64 0, .int .i64 0, .int .i64 0, .int .i64 0, .int .i64 0, .int .i64 0, .int .i64 0, .int .i64 0, .int .i64 0, .int .i64 0, .int .i64 0, .int .i64 0, .int .i64 0, .int .i64 0, .int .i64 0, .int .i64 0, .slice none 0 0, .slice none 0 0, .slice none 0 0] : Array Value).size = (evCs a).toArray.size := rfl
set_option maxRecDepth 100000 in
set_option maxHeartbeats 8000000 in
theorem onlyEv_1 (a : EvM) (w : World) (B : Nat) (hat : EvAt w B a) (hB : B ≤ w.heap.size) (hl : ActL a.act) (hk : a.kind = 1) : Calls Tryz.prog 69 #[evV a] w (RetOE a B w) := by
  obtain ⟨C, D0, X1, hp⟩ := only_pre a w 1 hk
  obtain ⟨hv, c0, c1, hbt, hsz0, hone0, hold0, hb1, hb2, hb3, hbe, hoy, hsr⟩ := hp
  have HBL := Lib.hid (And.intro hb1 (And.intro hb2 (And.intro hb3 hbe)))
  have p19 := HBL.out.1.cell (j := 19) (u := .int .i64 a.act.kind) rfl
  have p20 := HBL.out.1.cell (j := 20) (u := .int .i64 a.act.who) rfl
  have p21 := HBL.out.1.cell (j := 21) (u := .int .i64 a.act.n) rfl
  have p22 := HBL.out.1.cell (j := 22) (u := .int .i64 a.act.call) rfl
  have p23 := HBL.out.1.cell (j := 23) (u := .int .i64 a.act.other) rfl
  have p24 := HBL.out.1.cell (j := 24) (u := .int .i64 a.act.node) rfl
  have p25 := HBL.out.1.cell (j := 25) (u := .slice a.act.sA a.act.srcs.length a.act.sc) rfl
  have p26 := HBL.out.1.cell (j := 26) (u := .slice a.act.gA a.act.groups.length a.act.gc) rfl
  have p0 : X1.cell? ⟨w.heap.size, 0, none⟩ = some (.int .i64 1) := by rw [← hk]; exact HBL.out.1.cell (j := 0) rfl
  have q19 := HBL.out.2.2.1.cell (j := 19) rfl
  have f19 := HBL.out.2.2.1.free 19
  have q20 := HBL.out.2.2.1.cell (j := 20) rfl
  have f20 := HBL.out.2.2.1.free 20
  have q21 := HBL.out.2.2.1.cell (j := 21) rfl
  have f21 := HBL.out.2.2.1.free 21
  have q22 := HBL.out.2.2.1.cell (j := 22) rfl
  have f22 := HBL.out.2.2.1.free 22
  have q23 := HBL.out.2.2.1.cell (j := 23) rfl
  have f23 := HBL.out.2.2.1.free 23
  have q24 := HBL.out.2.2.1.cell (j := 24) rfl
  have f24 := HBL.out.2.2.1.free 24
  have q25 := HBL.out.2.2.1.cell (j := 25) rfl
  have f25 := HBL.out.2.2.1.free 25
  have q26 := HBL.out.2.2.1.cell (j := 26) rfl
  have f26 := HBL.out.2.2.1.free 26
  have hlt3 := HBL.out.2.2.1.lt
  have hlt1 := HBL.out.1.lt
  obtain ⟨D, hD⟩ : ∃ D, D = (evCs ({ EvM.zero 1 a.tick with act := a.act } : EvM)).toArray := ⟨_, rfl⟩
  have hszd : (Tryz.prog.info? 35).map (·.size) = some D.size := by rw [hD]; exact ev_size
  have holdd := (z28_size ({ EvM.zero 1 a.tick with act := a.act } : EvM)).trans (congrArg Array.size hD.symm)
  have honed : D.all (·.oneCell') = true := by rw [hD]; exact evCs_one _
  have HDV := Lib.hid (show evV ({ EvM.zero 1 a.tick with act := a.act } : EvM) = .agg D by rw [hD]; rfl)
  have HC0 : Hid (((((((((X1.setCell ⟨w.heap.size + 1 + 1, 19, none⟩ (.int .i64 a.act.kind)).setCell ⟨w.heap.size + 1 + 1, 20, none⟩ (.int .i64 a.act.who)).setCell ⟨w.heap.size + 1 + 1, 21, none⟩ (.int .i64 a.act.n)).setCell ⟨w.heap.size + 1 + 1, 22, none⟩ (.int .i64 a.act.call)).setCell ⟨w.heap.size + 1 + 1, 23, none⟩ (.int .i64 a.act.other)).setCell ⟨w.heap.size + 1 + 1, 24, none⟩ (.int .i64 a.act.node)).setCell ⟨w.heap.size + 1 + 1, 25, none⟩ (.slice a.act.sA a.act.srcs.length a.act.sc)).setCell ⟨w.heap.size + 1 + 1, 26, none⟩ (.slice a.act.gA a.act.groups.length a.act.gc)).heap[w.heap.size + 1 + 1]? = some (.cells D 35 (0, 0))) := Lib.hid (by rw [hD]; exact ((((((((HBL.out.2.2.1.set 19 (.int .i64 a.act.kind)).set 20 (.int .i64 a.act.who)).set 21 (.int .i64 a.act.n)).set 22 (.int .i64 a.act.call)).set 23 (.int .i64 a.act.other)).set 24 (.int .i64 a.act.node)).set 25 (.slice a.act.sA a.act.srcs.length a.act.sc)).set 26 (.slice a.act.gA a.act.groups.length a.act.gc)))
  have HO0 := Lib.hid (show ((((((((X1.setCell ⟨w.heap.size + 1 + 1, 19, none⟩ (.int .i64 a.act.kind)).setCell ⟨w.heap.size + 1 + 1, 20, none⟩ (.int .i64 a.act.who)).setCell ⟨w.heap.size + 1 + 1, 21, none⟩ (.int .i64 a.act.n)).setCell ⟨w.heap.size + 1 + 1, 22, none⟩ (.int .i64 a.act.call)).setCell ⟨w.heap.size + 1 + 1, 23, none⟩ (.int .i64 a.act.other)).setCell ⟨w.heap.size + 1 + 1, 24, none⟩ (.int .i64 a.act.node)).setCell ⟨w.heap.size + 1 + 1, 25, none⟩ (.slice a.act.sA a.act.srcs.length a.act.sc)).setCell ⟨w.heap.size + 1 + 1, 26, none⟩ (.slice a.act.gA a.act.groups.length a.act.gc)).heap[w.heap.size + 1]? = some (.cells _ _ _) from ((((((((HBL.out.2.1.other (g := w.heap.size + 1 + 1) (by omega) 19 (.int .i64 a.act.kind)).other (g := w.heap.size + 1 + 1) (by omega) 20 (.int .i64 a.act.who)).other (g := w.heap.size + 1 + 1) (by omega) 21 (.int .i64 a.act.n)).other (g := w.heap.size + 1 + 1) (by omega) 22 (.int .i64 a.act.call)).other (g := w.heap.size + 1 + 1) (by omega) 23 (.int .i64 a.act.other)).other (g := w.heap.size + 1 + 1) (by omega) 24 (.int .i64 a.act.node)).other (g := w.heap.size + 1 + 1) (by omega) 25 (.slice a.act.sA a.act.srcs.length a.act.sc)).other (g := w.heap.size + 1 + 1) (by omega) 26 (.slice a.act.gA a.act.groups.length a.act.gc)))
  have HE0 := Lib.hid (((((((((HBL.out.2.2.2.setCell (p := ⟨w.heap.size + 1 + 1, 19, none⟩) (by show w.heap.size ≤ w.heap.size + 1 + 1; omega) (.int .i64 a.act.kind)).setCell (p := ⟨w.heap.size + 1 + 1, 20, none⟩) (by show w.heap.size ≤ w.heap.size + 1 + 1; omega) (.int .i64 a.act.who)).setCell (p := ⟨w.heap.size + 1 + 1, 21, none⟩) (by show w.heap.size ≤ w.heap.size + 1 + 1; omega) (.int .i64 a.act.n)).setCell (p := ⟨w.heap.size + 1 + 1, 22, none⟩) (by show w.heap.size ≤ w.heap.size + 1 + 1; omega) (.int .i64 a.act.call)).setCell (p := ⟨w.heap.size + 1 + 1, 23, none⟩) (by show w.heap.size ≤ w.heap.size + 1 + 1; omega) (.int .i64 a.act.other)).setCell (p := ⟨w.heap.size + 1 + 1, 24, none⟩) (by show w.heap.size ≤ w.heap.size + 1 + 1; omega) (.int .i64 a.act.node)).setCell (p := ⟨w.heap.size + 1 + 1, 25, none⟩) (by show w.heap.size ≤ w.heap.size + 1 + 1; omega) (.slice a.act.sA a.act.srcs.length a.act.sc)).setCell (p := ⟨w.heap.size + 1 + 1, 26, none⟩) (by show w.heap.size ≤ w.heap.size + 1 + 1; omega) (.slice a.act.gA a.act.groups.length a.act.gc)))
  clear hD
  have HMI := Lib.hid (And.intro (show (Tryz.prog.info? 33).map (·.size) = some 8 by kernel_rfl) (show (#[.int .i64 a.act.kind, .int .i64 a.act.who, .int .i64 a.act.n, .int .i64 a.act.call, .int .i64 a.act.other, .int .i64 a.act.node, .slice a.act.sA a.act.srcs.length a.act.sc, .slice a.act.gA a.act.groups.length a.act.gc] : Array Value).all (·.oneCell') = true by simp [Value.oneCell']))
  have HPT := Lib.hid (show ∀ X : World, X.rangeAt w.heap.size 0 (evCs a) → X.rangeAt w.heap.size 19 [.int .i64 a.act.kind, .int .i64 a.act.who, .int .i64 a.act.n, .int .i64 a.act.call, .int .i64 a.act.other, .int .i64 a.act.node, .slice a.act.sA a.act.srcs.length a.act.sc, .slice a.act.gA a.act.groups.length a.act.gc] from fun X h => range_part h (fun j v hj => by
    match j, hj with
    | 0, hj => exact hj
    | 1, hj => exact hj
    | 2, hj => exact hj
    | 3, hj => exact hj
    | 4, hj => exact hj
    | 5, hj => exact hj
    | 6, hj => exact hj
    | 7, hj => exact hj
    | j + 8, hj => simp at hj))
  have HA := Lib.hid (And.intro hat (And.intro hl (And.intro hB hk)))
  have HH0 := Lib.hid (And.intro hbt (And.intro hsz0 (And.intro hone0 hold0)))
  have HH1 := Lib.hid (And.intro hoy hsr)
  have HH2 := Lib.hid (And.intro hszd (And.intro holdd honed))
  rw [hv]
  clear hv hb1 hb2 hb3 hbe hat hl hB hk hbt hsz0 hone0 hold0 hoy hsr hszd holdd honed
  go_enter Tryz.func69, Tryz.ntmps69
  go_wp2_with (first | ((with_reducible refine wpList_at 8 rfl ?_); refine wpList_build_v rfl 35 #[(0, .tmp 5), (1, .tmp 7)] rfl D0 [(0, .int .i64 1), (1, .int .i64 a.tick)] (by rw [Array.toList_map]; rfl) HH0.out.1 ?_) | ((with_reducible refine wpList_op (.store 35 (.tmp 3) (.tmp 8)) rfl ?_); refine wpList_store_row rfl 35 (.tmp 3) (.tmp 8) rfl (w.heap.size + 1 + 1) D0 rfl rfl 35 _ HH1.out.1 HH0.out.2.1 HH0.out.2.2.2 HH0.out.2.2.1 ?_; rw [HH1.out.2]) | ((with_reducible refine wpList_at 14 rfl ?_); refine wpList_load_mid rfl 33 (.tmp 13) rfl w.heap.size 19 rfl [.int .i64 a.act.kind, .int .i64 a.act.who, .int .i64 a.act.n, .int .i64 a.act.call, .int .i64 a.act.other, .int .i64 a.act.node, .slice a.act.sA a.act.srcs.length a.act.sc, .slice a.act.gA a.act.groups.length a.act.gc] _ (HPT.out X1 (blk_range HBL.out.1)) Tryz.underlying33 rfl HMI.out.1 ?_) | ((with_reducible refine wpList_op (.store 33 (.tmp 15) (.tmp 14)) rfl ?_); refine wpList_store_to rfl 33 (.tmp 15) (.tmp 14) rfl (w.heap.size + 1 + 1) 19 #[.int .i64 a.act.kind, .int .i64 a.act.who, .int .i64 a.act.n, .int .i64 a.act.call, .int .i64 a.act.other, .int .i64 a.act.node, .slice a.act.sA a.act.srcs.length a.act.sc, .slice a.act.gA a.act.groups.length a.act.gc] rfl rfl (blk_there HBL.out.2.2.1 (by decide)) HMI.out.1 HMI.out.2 ((((((((X1.setCell ⟨w.heap.size + 1 + 1, 19, none⟩ (.int .i64 a.act.kind)).setCell ⟨w.heap.size + 1 + 1, 20, none⟩ (.int .i64 a.act.who)).setCell ⟨w.heap.size + 1 + 1, 21, none⟩ (.int .i64 a.act.n)).setCell ⟨w.heap.size + 1 + 1, 22, none⟩ (.int .i64 a.act.call)).setCell ⟨w.heap.size + 1 + 1, 23, none⟩ (.int .i64 a.act.other)).setCell ⟨w.heap.size + 1 + 1, 24, none⟩ (.int .i64 a.act.node)).setCell ⟨w.heap.size + 1 + 1, 25, none⟩ (.slice a.act.sA a.act.srcs.length a.act.sc)).setCell ⟨w.heap.size + 1 + 1, 26, none⟩ (.slice a.act.gA a.act.groups.length a.act.gc)) rfl ?_) | ((with_reducible refine wpList_at 101 rfl ?_); refine wpList_load_row_g (by rfl) 35 (.tmp 3) rfl (w.heap.size + 1 + 1) rfl 35 D (0, 0) _ HC0.out Tryz.underlying35 rfl HH2.out.1 ?_) | ((with_reducible refine wpList_op (.store 35 (.tmp 2) (.tmp 101)) rfl ?_); refine wpList_store_row rfl 35 (.tmp 2) (.tmp 101) rfl (w.heap.size + 1) D rfl rfl 35 _ HO0.out HH2.out.1 HH2.out.2.1 HH2.out.2.2 ?_))
  all_goals (refine bodyPost_ret (results_cell1 Tryz.results69 _ _ (w.heap.size + 1) 35 D (0, 0) _ (by rfl) (setRow_heap _ _ _ _ _ _ HO0.out) Tryz.underlying35 rfl HH2.out.1) rfl ?_)
  all_goals (have HEX := HE0.out)
  all_goals (refine ⟨({ EvM.zero 1 a.tick with act := a.act } : EvM), by rw [HDV.out], ?_, ⟨Sl.empty, HA.out.1.act.below (Below.mono (below_setR HEX (by omega) D) HA.out.2.2.1), Sl.empty⟩, HA.out.2.1, below_setR HEX (by omega) D⟩)
  all_goals (
    unfold onlyE
    rw [show a.con.kind = 1 from HA.out.2.2.2]
    rfl
  )
set_option maxRecDepth 100000 in
set_option maxHeartbeats 8000000 in
theorem onlyEv_2 (a : EvM) (w : World) (B : Nat) (hat : EvAt w B a) (hB : B ≤ w.heap.size) (hl : ActL a.act) (hk : a.kind = 2) : Calls Tryz.prog 69 #[evV a] w (RetOE a B w) := by
  obtain ⟨C, D0, X1, hp⟩ := only_pre a w 2 hk
  obtain ⟨hv, c0, c1, hbt, hsz0, hone0, hold0, hb1, hb2, hb3, hbe, hoy, hsr⟩ := hp
  have HBL := Lib.hid (And.intro hb1 (And.intro hb2 (And.intro hb3 hbe)))
  have p3 := HBL.out.1.cell (j := 3) (u := .int .i64 a.call) rfl
  have p2 := HBL.out.1.cell (j := 2) (u := .int .i64 a.who) rfl
  have p0 : X1.cell? ⟨w.heap.size, 0, none⟩ = some (.int .i64 2) := by rw [← hk]; exact HBL.out.1.cell (j := 0) rfl
  have q3 := HBL.out.2.2.1.cell (j := 3) rfl
  have f3 := HBL.out.2.2.1.free 3
  have q2 := HBL.out.2.2.1.cell (j := 2) rfl
  have f2 := HBL.out.2.2.1.free 2
  have hlt3 := HBL.out.2.2.1.lt
  have hlt1 := HBL.out.1.lt
  obtain ⟨D, hD⟩ : ∃ D, D = (evCs ({ EvM.zero 2 a.tick with call := a.call, who := a.who } : EvM)).toArray := ⟨_, rfl⟩
  have hszd : (Tryz.prog.info? 35).map (·.size) = some D.size := by rw [hD]; exact ev_size
  have holdd := (z28_size ({ EvM.zero 2 a.tick with call := a.call, who := a.who } : EvM)).trans (congrArg Array.size hD.symm)
  have honed : D.all (·.oneCell') = true := by rw [hD]; exact evCs_one _
  have HDV := Lib.hid (show evV ({ EvM.zero 2 a.tick with call := a.call, who := a.who } : EvM) = .agg D by rw [hD]; rfl)
  have HC0 : Hid (((X1.setCell ⟨w.heap.size + 1 + 1, 3, none⟩ (.int .i64 a.call)).setCell ⟨w.heap.size + 1 + 1, 2, none⟩ (.int .i64 a.who)).drew.heap[w.heap.size + 1 + 1]? = some (.cells D 35 (0, 0))) := Lib.hid (by rw [hD]; exact ((HBL.out.2.2.1.set 3 (.int .i64 a.call)).set 2 (.int .i64 a.who)))
  have HO0 := Lib.hid (show ((X1.setCell ⟨w.heap.size + 1 + 1, 3, none⟩ (.int .i64 a.call)).setCell ⟨w.heap.size + 1 + 1, 2, none⟩ (.int .i64 a.who)).drew.heap[w.heap.size + 1]? = some (.cells _ _ _) from ((HBL.out.2.1.other (g := w.heap.size + 1 + 1) (by omega) 3 (.int .i64 a.call)).other (g := w.heap.size + 1 + 1) (by omega) 2 (.int .i64 a.who)))
  have HE0 := Lib.hid ((show Below w.heap.size w ((X1.setCell ⟨w.heap.size + 1 + 1, 3, none⟩ (.int .i64 a.call)).setCell ⟨w.heap.size + 1 + 1, 2, none⟩ (.int .i64 a.who)).drew from ⟨((HBL.out.2.2.2.setCell (p := ⟨w.heap.size + 1 + 1, 3, none⟩) (by show w.heap.size ≤ w.heap.size + 1 + 1; omega) (.int .i64 a.call)).setCell (p := ⟨w.heap.size + 1 + 1, 2, none⟩) (by show w.heap.size ≤ w.heap.size + 1 + 1; omega) (.int .i64 a.who)).os, ((HBL.out.2.2.2.setCell (p := ⟨w.heap.size + 1 + 1, 3, none⟩) (by show w.heap.size ≤ w.heap.size + 1 + 1; omega) (.int .i64 a.call)).setCell (p := ⟨w.heap.size + 1 + 1, 2, none⟩) (by show w.heap.size ≤ w.heap.size + 1 + 1; omega) (.int .i64 a.who)).tape, ((HBL.out.2.2.2.setCell (p := ⟨w.heap.size + 1 + 1, 3, none⟩) (by show w.heap.size ≤ w.heap.size + 1 + 1; omega) (.int .i64 a.call)).setCell (p := ⟨w.heap.size + 1 + 1, 2, none⟩) (by show w.heap.size ≤ w.heap.size + 1 + 1; omega) (.int .i64 a.who)).output, ((HBL.out.2.2.2.setCell (p := ⟨w.heap.size + 1 + 1, 3, none⟩) (by show w.heap.size ≤ w.heap.size + 1 + 1; omega) (.int .i64 a.call)).setCell (p := ⟨w.heap.size + 1 + 1, 2, none⟩) (by show w.heap.size ≤ w.heap.size + 1 + 1; omega) (.int .i64 a.who)).size, ((HBL.out.2.2.2.setCell (p := ⟨w.heap.size + 1 + 1, 3, none⟩) (by show w.heap.size ≤ w.heap.size + 1 + 1; omega) (.int .i64 a.call)).setCell (p := ⟨w.heap.size + 1 + 1, 2, none⟩) (by show w.heap.size ≤ w.heap.size + 1 + 1; omega) (.int .i64 a.who)).block⟩))
  clear hD
  have HA := Lib.hid (And.intro hat (And.intro hl (And.intro hB hk)))
  have HH0 := Lib.hid (And.intro hbt (And.intro hsz0 (And.intro hone0 hold0)))
  have HH1 := Lib.hid (And.intro hoy hsr)
  have HH2 := Lib.hid (And.intro hszd (And.intro holdd honed))
  rw [hv]
  clear hv hb1 hb2 hb3 hbe hat hl hB hk hbt hsz0 hone0 hold0 hoy hsr hszd holdd honed
  go_enter Tryz.func69, Tryz.ntmps69
  go_wp2_with (first | ((with_reducible refine wpList_at 8 rfl ?_); refine wpList_build_v rfl 35 #[(0, .tmp 5), (1, .tmp 7)] rfl D0 [(0, .int .i64 2), (1, .int .i64 a.tick)] (by rw [Array.toList_map]; rfl) HH0.out.1 ?_) | ((with_reducible refine wpList_op (.store 35 (.tmp 3) (.tmp 8)) rfl ?_); refine wpList_store_row rfl 35 (.tmp 3) (.tmp 8) rfl (w.heap.size + 1 + 1) D0 rfl rfl 35 _ HH1.out.1 HH0.out.2.1 HH0.out.2.2.2 HH0.out.2.2.1 ?_; rw [HH1.out.2]))
  go_region
  all_goals (go_wp2_with (first | ((with_reducible refine wpList_at 101 rfl ?_); refine wpList_load_row_g (by rfl) 35 (.tmp 3) rfl (w.heap.size + 1 + 1) rfl 35 D (0, 0) _ HC0.out Tryz.underlying35 rfl HH2.out.1 ?_) | ((with_reducible refine wpList_op (.store 35 (.tmp 2) (.tmp 101)) rfl ?_); refine wpList_store_row rfl 35 (.tmp 2) (.tmp 101) rfl (w.heap.size + 1) D rfl rfl 35 _ HO0.out HH2.out.1 HH2.out.2.1 HH2.out.2.2 ?_)))
  all_goals (refine bodyPost_ret (results_cell1 Tryz.results69 _ _ (w.heap.size + 1) 35 D (0, 0) _ (by rfl) (setRow_heap _ _ _ _ _ _ HO0.out) Tryz.underlying35 rfl HH2.out.1) rfl ?_)
  all_goals (have HEX := HE0.out)
  all_goals (refine ⟨({ EvM.zero 2 a.tick with call := a.call, who := a.who } : EvM), by rw [HDV.out], ?_, ⟨Sl.empty, ⟨SrcsAt.empty, Sl.empty⟩, Sl.empty⟩, ⟨Nat.zero_le _, (fun s hs => by cases hs), Nat.zero_le _⟩, below_setR HEX (by omega) D⟩)
  all_goals (
    unfold onlyE
    rw [show a.con.kind = 2 from HA.out.2.2.2]
    rfl
  )
set_option maxRecDepth 100000 in
set_option maxHeartbeats 8000000 in
theorem onlyEv_3 (a : EvM) (w : World) (B : Nat) (hat : EvAt w B a) (hB : B ≤ w.heap.size) (hl : ActL a.act) (hk : a.kind = 3) : Calls Tryz.prog 69 #[evV a] w (RetOE a B w) := by
  obtain ⟨C, D0, X1, hp⟩ := only_pre a w 3 hk
  obtain ⟨hv, c0, c1, hbt, hsz0, hone0, hold0, hb1, hb2, hb3, hbe, hoy, hsr⟩ := hp
  have HBL := Lib.hid (And.intro hb1 (And.intro hb2 (And.intro hb3 hbe)))
  have p3 := HBL.out.1.cell (j := 3) (u := .int .i64 a.call) rfl
  have p2 := HBL.out.1.cell (j := 2) (u := .int .i64 a.who) rfl
  have p4 := HBL.out.1.cell (j := 4) (u := .int .i64 a.epoch) rfl
  have p0 : X1.cell? ⟨w.heap.size, 0, none⟩ = some (.int .i64 3) := by rw [← hk]; exact HBL.out.1.cell (j := 0) rfl
  have q3 := HBL.out.2.2.1.cell (j := 3) rfl
  have f3 := HBL.out.2.2.1.free 3
  have q2 := HBL.out.2.2.1.cell (j := 2) rfl
  have f2 := HBL.out.2.2.1.free 2
  have q4 := HBL.out.2.2.1.cell (j := 4) rfl
  have f4 := HBL.out.2.2.1.free 4
  have hlt3 := HBL.out.2.2.1.lt
  have hlt1 := HBL.out.1.lt
  obtain ⟨D, hD⟩ : ∃ D, D = (evCs ({ EvM.zero 3 a.tick with call := a.call, who := a.who, epoch := a.epoch } : EvM)).toArray := ⟨_, rfl⟩
  have hszd : (Tryz.prog.info? 35).map (·.size) = some D.size := by rw [hD]; exact ev_size
  have holdd := (z28_size ({ EvM.zero 3 a.tick with call := a.call, who := a.who, epoch := a.epoch } : EvM)).trans (congrArg Array.size hD.symm)
  have honed : D.all (·.oneCell') = true := by rw [hD]; exact evCs_one _
  have HDV := Lib.hid (show evV ({ EvM.zero 3 a.tick with call := a.call, who := a.who, epoch := a.epoch } : EvM) = .agg D by rw [hD]; rfl)
  have HC0 : Hid ((((X1.setCell ⟨w.heap.size + 1 + 1, 3, none⟩ (.int .i64 a.call)).setCell ⟨w.heap.size + 1 + 1, 2, none⟩ (.int .i64 a.who)).setCell ⟨w.heap.size + 1 + 1, 4, none⟩ (.int .i64 a.epoch)).drew.heap[w.heap.size + 1 + 1]? = some (.cells D 35 (0, 0))) := Lib.hid (by rw [hD]; exact (((HBL.out.2.2.1.set 3 (.int .i64 a.call)).set 2 (.int .i64 a.who)).set 4 (.int .i64 a.epoch)))
  have HO0 := Lib.hid (show (((X1.setCell ⟨w.heap.size + 1 + 1, 3, none⟩ (.int .i64 a.call)).setCell ⟨w.heap.size + 1 + 1, 2, none⟩ (.int .i64 a.who)).setCell ⟨w.heap.size + 1 + 1, 4, none⟩ (.int .i64 a.epoch)).drew.heap[w.heap.size + 1]? = some (.cells _ _ _) from (((HBL.out.2.1.other (g := w.heap.size + 1 + 1) (by omega) 3 (.int .i64 a.call)).other (g := w.heap.size + 1 + 1) (by omega) 2 (.int .i64 a.who)).other (g := w.heap.size + 1 + 1) (by omega) 4 (.int .i64 a.epoch)))
  have HE0 := Lib.hid ((show Below w.heap.size w (((X1.setCell ⟨w.heap.size + 1 + 1, 3, none⟩ (.int .i64 a.call)).setCell ⟨w.heap.size + 1 + 1, 2, none⟩ (.int .i64 a.who)).setCell ⟨w.heap.size + 1 + 1, 4, none⟩ (.int .i64 a.epoch)).drew from ⟨(((HBL.out.2.2.2.setCell (p := ⟨w.heap.size + 1 + 1, 3, none⟩) (by show w.heap.size ≤ w.heap.size + 1 + 1; omega) (.int .i64 a.call)).setCell (p := ⟨w.heap.size + 1 + 1, 2, none⟩) (by show w.heap.size ≤ w.heap.size + 1 + 1; omega) (.int .i64 a.who)).setCell (p := ⟨w.heap.size + 1 + 1, 4, none⟩) (by show w.heap.size ≤ w.heap.size + 1 + 1; omega) (.int .i64 a.epoch)).os, (((HBL.out.2.2.2.setCell (p := ⟨w.heap.size + 1 + 1, 3, none⟩) (by show w.heap.size ≤ w.heap.size + 1 + 1; omega) (.int .i64 a.call)).setCell (p := ⟨w.heap.size + 1 + 1, 2, none⟩) (by show w.heap.size ≤ w.heap.size + 1 + 1; omega) (.int .i64 a.who)).setCell (p := ⟨w.heap.size + 1 + 1, 4, none⟩) (by show w.heap.size ≤ w.heap.size + 1 + 1; omega) (.int .i64 a.epoch)).tape, (((HBL.out.2.2.2.setCell (p := ⟨w.heap.size + 1 + 1, 3, none⟩) (by show w.heap.size ≤ w.heap.size + 1 + 1; omega) (.int .i64 a.call)).setCell (p := ⟨w.heap.size + 1 + 1, 2, none⟩) (by show w.heap.size ≤ w.heap.size + 1 + 1; omega) (.int .i64 a.who)).setCell (p := ⟨w.heap.size + 1 + 1, 4, none⟩) (by show w.heap.size ≤ w.heap.size + 1 + 1; omega) (.int .i64 a.epoch)).output, (((HBL.out.2.2.2.setCell (p := ⟨w.heap.size + 1 + 1, 3, none⟩) (by show w.heap.size ≤ w.heap.size + 1 + 1; omega) (.int .i64 a.call)).setCell (p := ⟨w.heap.size + 1 + 1, 2, none⟩) (by show w.heap.size ≤ w.heap.size + 1 + 1; omega) (.int .i64 a.who)).setCell (p := ⟨w.heap.size + 1 + 1, 4, none⟩) (by show w.heap.size ≤ w.heap.size + 1 + 1; omega) (.int .i64 a.epoch)).size, (((HBL.out.2.2.2.setCell (p := ⟨w.heap.size + 1 + 1, 3, none⟩) (by show w.heap.size ≤ w.heap.size + 1 + 1; omega) (.int .i64 a.call)).setCell (p := ⟨w.heap.size + 1 + 1, 2, none⟩) (by show w.heap.size ≤ w.heap.size + 1 + 1; omega) (.int .i64 a.who)).setCell (p := ⟨w.heap.size + 1 + 1, 4, none⟩) (by show w.heap.size ≤ w.heap.size + 1 + 1; omega) (.int .i64 a.epoch)).block⟩))
  clear hD
  have HA := Lib.hid (And.intro hat (And.intro hl (And.intro hB hk)))
  have HH0 := Lib.hid (And.intro hbt (And.intro hsz0 (And.intro hone0 hold0)))
  have HH1 := Lib.hid (And.intro hoy hsr)
  have HH2 := Lib.hid (And.intro hszd (And.intro holdd honed))
  rw [hv]
  clear hv hb1 hb2 hb3 hbe hat hl hB hk hbt hsz0 hone0 hold0 hoy hsr hszd holdd honed
  go_enter Tryz.func69, Tryz.ntmps69
  go_wp2_with (first | ((with_reducible refine wpList_at 8 rfl ?_); refine wpList_build_v rfl 35 #[(0, .tmp 5), (1, .tmp 7)] rfl D0 [(0, .int .i64 3), (1, .int .i64 a.tick)] (by rw [Array.toList_map]; rfl) HH0.out.1 ?_) | ((with_reducible refine wpList_op (.store 35 (.tmp 3) (.tmp 8)) rfl ?_); refine wpList_store_row rfl 35 (.tmp 3) (.tmp 8) rfl (w.heap.size + 1 + 1) D0 rfl rfl 35 _ HH1.out.1 HH0.out.2.1 HH0.out.2.2.2 HH0.out.2.2.1 ?_; rw [HH1.out.2]))
  go_region
  all_goals (go_wp2_with (first | ((with_reducible refine wpList_at 101 rfl ?_); refine wpList_load_row_g (by rfl) 35 (.tmp 3) rfl (w.heap.size + 1 + 1) rfl 35 D (0, 0) _ HC0.out Tryz.underlying35 rfl HH2.out.1 ?_) | ((with_reducible refine wpList_op (.store 35 (.tmp 2) (.tmp 101)) rfl ?_); refine wpList_store_row rfl 35 (.tmp 2) (.tmp 101) rfl (w.heap.size + 1) D rfl rfl 35 _ HO0.out HH2.out.1 HH2.out.2.1 HH2.out.2.2 ?_)))
  all_goals (refine bodyPost_ret (results_cell1 Tryz.results69 _ _ (w.heap.size + 1) 35 D (0, 0) _ (by rfl) (setRow_heap _ _ _ _ _ _ HO0.out) Tryz.underlying35 rfl HH2.out.1) rfl ?_)
  all_goals (have HEX := HE0.out)
  all_goals (refine ⟨({ EvM.zero 3 a.tick with call := a.call, who := a.who, epoch := a.epoch } : EvM), by rw [HDV.out], ?_, ⟨Sl.empty, ⟨SrcsAt.empty, Sl.empty⟩, Sl.empty⟩, ⟨Nat.zero_le _, (fun s hs => by cases hs), Nat.zero_le _⟩, below_setR HEX (by omega) D⟩)
  all_goals (
    unfold onlyE
    rw [show a.con.kind = 3 from HA.out.2.2.2]
    rfl
  )
set_option maxRecDepth 100000 in
set_option maxHeartbeats 8000000 in
theorem onlyEv_4 (a : EvM) (w : World) (B : Nat) (hat : EvAt w B a) (hB : B ≤ w.heap.size) (hl : ActL a.act) (hk : a.kind = 4) : Calls Tryz.prog 69 #[evV a] w (RetOE a B w) := by
  obtain ⟨C, D0, X1, hp⟩ := only_pre a w 4 hk
  obtain ⟨hv, c0, c1, hbt, hsz0, hone0, hold0, hb1, hb2, hb3, hbe, hoy, hsr⟩ := hp
  have HBL := Lib.hid (And.intro hb1 (And.intro hb2 (And.intro hb3 hbe)))
  have p3 := HBL.out.1.cell (j := 3) (u := .int .i64 a.call) rfl
  have p5 := HBL.out.1.cell (j := 5) (u := .int .i64 a.n) rfl
  have p0 : X1.cell? ⟨w.heap.size, 0, none⟩ = some (.int .i64 4) := by rw [← hk]; exact HBL.out.1.cell (j := 0) rfl
  have q3 := HBL.out.2.2.1.cell (j := 3) rfl
  have f3 := HBL.out.2.2.1.free 3
  have q5 := HBL.out.2.2.1.cell (j := 5) rfl
  have f5 := HBL.out.2.2.1.free 5
  have hlt3 := HBL.out.2.2.1.lt
  have hlt1 := HBL.out.1.lt
  obtain ⟨D, hD⟩ : ∃ D, D = (evCs ({ EvM.zero 4 a.tick with call := a.call, n := a.n } : EvM)).toArray := ⟨_, rfl⟩
  have hszd : (Tryz.prog.info? 35).map (·.size) = some D.size := by rw [hD]; exact ev_size
  have holdd := (z28_size ({ EvM.zero 4 a.tick with call := a.call, n := a.n } : EvM)).trans (congrArg Array.size hD.symm)
  have honed : D.all (·.oneCell') = true := by rw [hD]; exact evCs_one _
  have HDV := Lib.hid (show evV ({ EvM.zero 4 a.tick with call := a.call, n := a.n } : EvM) = .agg D by rw [hD]; rfl)
  have HC0 : Hid (((X1.setCell ⟨w.heap.size + 1 + 1, 3, none⟩ (.int .i64 a.call)).setCell ⟨w.heap.size + 1 + 1, 5, none⟩ (.int .i64 a.n)).drew.heap[w.heap.size + 1 + 1]? = some (.cells D 35 (0, 0))) := Lib.hid (by rw [hD]; exact ((HBL.out.2.2.1.set 3 (.int .i64 a.call)).set 5 (.int .i64 a.n)))
  have HO0 := Lib.hid (show ((X1.setCell ⟨w.heap.size + 1 + 1, 3, none⟩ (.int .i64 a.call)).setCell ⟨w.heap.size + 1 + 1, 5, none⟩ (.int .i64 a.n)).drew.heap[w.heap.size + 1]? = some (.cells _ _ _) from ((HBL.out.2.1.other (g := w.heap.size + 1 + 1) (by omega) 3 (.int .i64 a.call)).other (g := w.heap.size + 1 + 1) (by omega) 5 (.int .i64 a.n)))
  have HE0 := Lib.hid ((show Below w.heap.size w ((X1.setCell ⟨w.heap.size + 1 + 1, 3, none⟩ (.int .i64 a.call)).setCell ⟨w.heap.size + 1 + 1, 5, none⟩ (.int .i64 a.n)).drew from ⟨((HBL.out.2.2.2.setCell (p := ⟨w.heap.size + 1 + 1, 3, none⟩) (by show w.heap.size ≤ w.heap.size + 1 + 1; omega) (.int .i64 a.call)).setCell (p := ⟨w.heap.size + 1 + 1, 5, none⟩) (by show w.heap.size ≤ w.heap.size + 1 + 1; omega) (.int .i64 a.n)).os, ((HBL.out.2.2.2.setCell (p := ⟨w.heap.size + 1 + 1, 3, none⟩) (by show w.heap.size ≤ w.heap.size + 1 + 1; omega) (.int .i64 a.call)).setCell (p := ⟨w.heap.size + 1 + 1, 5, none⟩) (by show w.heap.size ≤ w.heap.size + 1 + 1; omega) (.int .i64 a.n)).tape, ((HBL.out.2.2.2.setCell (p := ⟨w.heap.size + 1 + 1, 3, none⟩) (by show w.heap.size ≤ w.heap.size + 1 + 1; omega) (.int .i64 a.call)).setCell (p := ⟨w.heap.size + 1 + 1, 5, none⟩) (by show w.heap.size ≤ w.heap.size + 1 + 1; omega) (.int .i64 a.n)).output, ((HBL.out.2.2.2.setCell (p := ⟨w.heap.size + 1 + 1, 3, none⟩) (by show w.heap.size ≤ w.heap.size + 1 + 1; omega) (.int .i64 a.call)).setCell (p := ⟨w.heap.size + 1 + 1, 5, none⟩) (by show w.heap.size ≤ w.heap.size + 1 + 1; omega) (.int .i64 a.n)).size, ((HBL.out.2.2.2.setCell (p := ⟨w.heap.size + 1 + 1, 3, none⟩) (by show w.heap.size ≤ w.heap.size + 1 + 1; omega) (.int .i64 a.call)).setCell (p := ⟨w.heap.size + 1 + 1, 5, none⟩) (by show w.heap.size ≤ w.heap.size + 1 + 1; omega) (.int .i64 a.n)).block⟩))
  clear hD
  have HA := Lib.hid (And.intro hat (And.intro hl (And.intro hB hk)))
  have HH0 := Lib.hid (And.intro hbt (And.intro hsz0 (And.intro hone0 hold0)))
  have HH1 := Lib.hid (And.intro hoy hsr)
  have HH2 := Lib.hid (And.intro hszd (And.intro holdd honed))
  rw [hv]
  clear hv hb1 hb2 hb3 hbe hat hl hB hk hbt hsz0 hone0 hold0 hoy hsr hszd holdd honed
  go_enter Tryz.func69, Tryz.ntmps69
  go_wp2_with (first | ((with_reducible refine wpList_at 8 rfl ?_); refine wpList_build_v rfl 35 #[(0, .tmp 5), (1, .tmp 7)] rfl D0 [(0, .int .i64 4), (1, .int .i64 a.tick)] (by rw [Array.toList_map]; rfl) HH0.out.1 ?_) | ((with_reducible refine wpList_op (.store 35 (.tmp 3) (.tmp 8)) rfl ?_); refine wpList_store_row rfl 35 (.tmp 3) (.tmp 8) rfl (w.heap.size + 1 + 1) D0 rfl rfl 35 _ HH1.out.1 HH0.out.2.1 HH0.out.2.2.2 HH0.out.2.2.1 ?_; rw [HH1.out.2]))
  go_region
  all_goals (go_wp2_with (first | ((with_reducible refine wpList_at 101 rfl ?_); refine wpList_load_row_g (by rfl) 35 (.tmp 3) rfl (w.heap.size + 1 + 1) rfl 35 D (0, 0) _ HC0.out Tryz.underlying35 rfl HH2.out.1 ?_) | ((with_reducible refine wpList_op (.store 35 (.tmp 2) (.tmp 101)) rfl ?_); refine wpList_store_row rfl 35 (.tmp 2) (.tmp 101) rfl (w.heap.size + 1) D rfl rfl 35 _ HO0.out HH2.out.1 HH2.out.2.1 HH2.out.2.2 ?_)))
  all_goals (refine bodyPost_ret (results_cell1 Tryz.results69 _ _ (w.heap.size + 1) 35 D (0, 0) _ (by rfl) (setRow_heap _ _ _ _ _ _ HO0.out) Tryz.underlying35 rfl HH2.out.1) rfl ?_)
  all_goals (have HEX := HE0.out)
  all_goals (refine ⟨({ EvM.zero 4 a.tick with call := a.call, n := a.n } : EvM), by rw [HDV.out], ?_, ⟨Sl.empty, ⟨SrcsAt.empty, Sl.empty⟩, Sl.empty⟩, ⟨Nat.zero_le _, (fun s hs => by cases hs), Nat.zero_le _⟩, below_setR HEX (by omega) D⟩)
  all_goals (
    unfold onlyE
    rw [show a.con.kind = 4 from HA.out.2.2.2]
    rfl
  )
set_option maxRecDepth 100000 in
set_option maxHeartbeats 8000000 in
theorem onlyEv_5 (a : EvM) (w : World) (B : Nat) (hat : EvAt w B a) (hB : B ≤ w.heap.size) (hl : ActL a.act) (hk : a.kind = 5) : Calls Tryz.prog 69 #[evV a] w (RetOE a B w) := by
  obtain ⟨C, D0, X1, hp⟩ := only_pre a w 5 hk
  obtain ⟨hv, c0, c1, hbt, hsz0, hone0, hold0, hb1, hb2, hb3, hbe, hoy, hsr⟩ := hp
  have HBL := Lib.hid (And.intro hb1 (And.intro hb2 (And.intro hb3 hbe)))
  have p3 := HBL.out.1.cell (j := 3) (u := .int .i64 a.call) rfl
  have p0 : X1.cell? ⟨w.heap.size, 0, none⟩ = some (.int .i64 5) := by rw [← hk]; exact HBL.out.1.cell (j := 0) rfl
  have q3 := HBL.out.2.2.1.cell (j := 3) rfl
  have f3 := HBL.out.2.2.1.free 3
  have hlt3 := HBL.out.2.2.1.lt
  have hlt1 := HBL.out.1.lt
  obtain ⟨D, hD⟩ : ∃ D, D = (evCs ({ EvM.zero 5 a.tick with call := a.call } : EvM)).toArray := ⟨_, rfl⟩
  have hszd : (Tryz.prog.info? 35).map (·.size) = some D.size := by rw [hD]; exact ev_size
  have holdd := (z28_size ({ EvM.zero 5 a.tick with call := a.call } : EvM)).trans (congrArg Array.size hD.symm)
  have honed : D.all (·.oneCell') = true := by rw [hD]; exact evCs_one _
  have HDV := Lib.hid (show evV ({ EvM.zero 5 a.tick with call := a.call } : EvM) = .agg D by rw [hD]; rfl)
  have HC0 : Hid ((X1.setCell ⟨w.heap.size + 1 + 1, 3, none⟩ (.int .i64 a.call)).heap[w.heap.size + 1 + 1]? = some (.cells D 35 (0, 0))) := Lib.hid (by rw [hD]; exact (HBL.out.2.2.1.set 3 (.int .i64 a.call)))
  have HO0 := Lib.hid (show (X1.setCell ⟨w.heap.size + 1 + 1, 3, none⟩ (.int .i64 a.call)).heap[w.heap.size + 1]? = some (.cells _ _ _) from (HBL.out.2.1.other (g := w.heap.size + 1 + 1) (by omega) 3 (.int .i64 a.call)))
  have HE0 := Lib.hid ((HBL.out.2.2.2.setCell (p := ⟨w.heap.size + 1 + 1, 3, none⟩) (by show w.heap.size ≤ w.heap.size + 1 + 1; omega) (.int .i64 a.call)))
  clear hD
  have HA := Lib.hid (And.intro hat (And.intro hl (And.intro hB hk)))
  have HH0 := Lib.hid (And.intro hbt (And.intro hsz0 (And.intro hone0 hold0)))
  have HH1 := Lib.hid (And.intro hoy hsr)
  have HH2 := Lib.hid (And.intro hszd (And.intro holdd honed))
  rw [hv]
  clear hv hb1 hb2 hb3 hbe hat hl hB hk hbt hsz0 hone0 hold0 hoy hsr hszd holdd honed
  go_enter Tryz.func69, Tryz.ntmps69
  go_wp2_with (first | ((with_reducible refine wpList_at 8 rfl ?_); refine wpList_build_v rfl 35 #[(0, .tmp 5), (1, .tmp 7)] rfl D0 [(0, .int .i64 5), (1, .int .i64 a.tick)] (by rw [Array.toList_map]; rfl) HH0.out.1 ?_) | ((with_reducible refine wpList_op (.store 35 (.tmp 3) (.tmp 8)) rfl ?_); refine wpList_store_row rfl 35 (.tmp 3) (.tmp 8) rfl (w.heap.size + 1 + 1) D0 rfl rfl 35 _ HH1.out.1 HH0.out.2.1 HH0.out.2.2.2 HH0.out.2.2.1 ?_; rw [HH1.out.2]) | ((with_reducible refine wpList_at 101 rfl ?_); refine wpList_load_row_g (by rfl) 35 (.tmp 3) rfl (w.heap.size + 1 + 1) rfl 35 D (0, 0) _ HC0.out Tryz.underlying35 rfl HH2.out.1 ?_) | ((with_reducible refine wpList_op (.store 35 (.tmp 2) (.tmp 101)) rfl ?_); refine wpList_store_row rfl 35 (.tmp 2) (.tmp 101) rfl (w.heap.size + 1) D rfl rfl 35 _ HO0.out HH2.out.1 HH2.out.2.1 HH2.out.2.2 ?_))
  all_goals (refine bodyPost_ret (results_cell1 Tryz.results69 _ _ (w.heap.size + 1) 35 D (0, 0) _ (by rfl) (setRow_heap _ _ _ _ _ _ HO0.out) Tryz.underlying35 rfl HH2.out.1) rfl ?_)
  all_goals (have HEX := HE0.out)
  all_goals (refine ⟨({ EvM.zero 5 a.tick with call := a.call } : EvM), by rw [HDV.out], ?_, ⟨Sl.empty, ⟨SrcsAt.empty, Sl.empty⟩, Sl.empty⟩, ⟨Nat.zero_le _, (fun s hs => by cases hs), Nat.zero_le _⟩, below_setR HEX (by omega) D⟩)
  all_goals (
    unfold onlyE
    rw [show a.con.kind = 5 from HA.out.2.2.2]
    rfl
  )
set_option maxRecDepth 100000 in
set_option maxHeartbeats 8000000 in
theorem onlyEv_6 (a : EvM) (w : World) (B : Nat) (hat : EvAt w B a) (hB : B ≤ w.heap.size) (hl : ActL a.act) (hk : a.kind = 6) : Calls Tryz.prog 69 #[evV a] w (RetOE a B w) := by
  obtain ⟨C, D0, X1, hp⟩ := only_pre a w 6 hk
  obtain ⟨hv, c0, c1, hbt, hsz0, hone0, hold0, hb1, hb2, hb3, hbe, hoy, hsr⟩ := hp
  have HBL := Lib.hid (And.intro hb1 (And.intro hb2 (And.intro hb3 hbe)))
  have p3 := HBL.out.1.cell (j := 3) (u := .int .i64 a.call) rfl
  have p2 := HBL.out.1.cell (j := 2) (u := .int .i64 a.who) rfl
  have p4 := HBL.out.1.cell (j := 4) (u := .int .i64 a.epoch) rfl
  have p0 : X1.cell? ⟨w.heap.size, 0, none⟩ = some (.int .i64 6) := by rw [← hk]; exact HBL.out.1.cell (j := 0) rfl
  have q3 := HBL.out.2.2.1.cell (j := 3) rfl
  have f3 := HBL.out.2.2.1.free 3
  have q2 := HBL.out.2.2.1.cell (j := 2) rfl
  have f2 := HBL.out.2.2.1.free 2
  have q4 := HBL.out.2.2.1.cell (j := 4) rfl
  have f4 := HBL.out.2.2.1.free 4
  have hlt3 := HBL.out.2.2.1.lt
  have hlt1 := HBL.out.1.lt
  obtain ⟨D, hD⟩ : ∃ D, D = (evCs ({ EvM.zero 6 a.tick with call := a.call, who := a.who, epoch := a.epoch } : EvM)).toArray := ⟨_, rfl⟩
  have hszd : (Tryz.prog.info? 35).map (·.size) = some D.size := by rw [hD]; exact ev_size
  have holdd := (z28_size ({ EvM.zero 6 a.tick with call := a.call, who := a.who, epoch := a.epoch } : EvM)).trans (congrArg Array.size hD.symm)
  have honed : D.all (·.oneCell') = true := by rw [hD]; exact evCs_one _
  have HDV := Lib.hid (show evV ({ EvM.zero 6 a.tick with call := a.call, who := a.who, epoch := a.epoch } : EvM) = .agg D by rw [hD]; rfl)
  have HC0 : Hid ((((X1.setCell ⟨w.heap.size + 1 + 1, 3, none⟩ (.int .i64 a.call)).setCell ⟨w.heap.size + 1 + 1, 2, none⟩ (.int .i64 a.who)).setCell ⟨w.heap.size + 1 + 1, 4, none⟩ (.int .i64 a.epoch)).drew.heap[w.heap.size + 1 + 1]? = some (.cells D 35 (0, 0))) := Lib.hid (by rw [hD]; exact (((HBL.out.2.2.1.set 3 (.int .i64 a.call)).set 2 (.int .i64 a.who)).set 4 (.int .i64 a.epoch)))
  have HO0 := Lib.hid (show (((X1.setCell ⟨w.heap.size + 1 + 1, 3, none⟩ (.int .i64 a.call)).setCell ⟨w.heap.size + 1 + 1, 2, none⟩ (.int .i64 a.who)).setCell ⟨w.heap.size + 1 + 1, 4, none⟩ (.int .i64 a.epoch)).drew.heap[w.heap.size + 1]? = some (.cells _ _ _) from (((HBL.out.2.1.other (g := w.heap.size + 1 + 1) (by omega) 3 (.int .i64 a.call)).other (g := w.heap.size + 1 + 1) (by omega) 2 (.int .i64 a.who)).other (g := w.heap.size + 1 + 1) (by omega) 4 (.int .i64 a.epoch)))
  have HE0 := Lib.hid ((show Below w.heap.size w (((X1.setCell ⟨w.heap.size + 1 + 1, 3, none⟩ (.int .i64 a.call)).setCell ⟨w.heap.size + 1 + 1, 2, none⟩ (.int .i64 a.who)).setCell ⟨w.heap.size + 1 + 1, 4, none⟩ (.int .i64 a.epoch)).drew from ⟨(((HBL.out.2.2.2.setCell (p := ⟨w.heap.size + 1 + 1, 3, none⟩) (by show w.heap.size ≤ w.heap.size + 1 + 1; omega) (.int .i64 a.call)).setCell (p := ⟨w.heap.size + 1 + 1, 2, none⟩) (by show w.heap.size ≤ w.heap.size + 1 + 1; omega) (.int .i64 a.who)).setCell (p := ⟨w.heap.size + 1 + 1, 4, none⟩) (by show w.heap.size ≤ w.heap.size + 1 + 1; omega) (.int .i64 a.epoch)).os, (((HBL.out.2.2.2.setCell (p := ⟨w.heap.size + 1 + 1, 3, none⟩) (by show w.heap.size ≤ w.heap.size + 1 + 1; omega) (.int .i64 a.call)).setCell (p := ⟨w.heap.size + 1 + 1, 2, none⟩) (by show w.heap.size ≤ w.heap.size + 1 + 1; omega) (.int .i64 a.who)).setCell (p := ⟨w.heap.size + 1 + 1, 4, none⟩) (by show w.heap.size ≤ w.heap.size + 1 + 1; omega) (.int .i64 a.epoch)).tape, (((HBL.out.2.2.2.setCell (p := ⟨w.heap.size + 1 + 1, 3, none⟩) (by show w.heap.size ≤ w.heap.size + 1 + 1; omega) (.int .i64 a.call)).setCell (p := ⟨w.heap.size + 1 + 1, 2, none⟩) (by show w.heap.size ≤ w.heap.size + 1 + 1; omega) (.int .i64 a.who)).setCell (p := ⟨w.heap.size + 1 + 1, 4, none⟩) (by show w.heap.size ≤ w.heap.size + 1 + 1; omega) (.int .i64 a.epoch)).output, (((HBL.out.2.2.2.setCell (p := ⟨w.heap.size + 1 + 1, 3, none⟩) (by show w.heap.size ≤ w.heap.size + 1 + 1; omega) (.int .i64 a.call)).setCell (p := ⟨w.heap.size + 1 + 1, 2, none⟩) (by show w.heap.size ≤ w.heap.size + 1 + 1; omega) (.int .i64 a.who)).setCell (p := ⟨w.heap.size + 1 + 1, 4, none⟩) (by show w.heap.size ≤ w.heap.size + 1 + 1; omega) (.int .i64 a.epoch)).size, (((HBL.out.2.2.2.setCell (p := ⟨w.heap.size + 1 + 1, 3, none⟩) (by show w.heap.size ≤ w.heap.size + 1 + 1; omega) (.int .i64 a.call)).setCell (p := ⟨w.heap.size + 1 + 1, 2, none⟩) (by show w.heap.size ≤ w.heap.size + 1 + 1; omega) (.int .i64 a.who)).setCell (p := ⟨w.heap.size + 1 + 1, 4, none⟩) (by show w.heap.size ≤ w.heap.size + 1 + 1; omega) (.int .i64 a.epoch)).block⟩))
  clear hD
  have HA := Lib.hid (And.intro hat (And.intro hl (And.intro hB hk)))
  have HH0 := Lib.hid (And.intro hbt (And.intro hsz0 (And.intro hone0 hold0)))
  have HH1 := Lib.hid (And.intro hoy hsr)
  have HH2 := Lib.hid (And.intro hszd (And.intro holdd honed))
  rw [hv]
  clear hv hb1 hb2 hb3 hbe hat hl hB hk hbt hsz0 hone0 hold0 hoy hsr hszd holdd honed
  go_enter Tryz.func69, Tryz.ntmps69
  go_wp2_with (first | ((with_reducible refine wpList_at 8 rfl ?_); refine wpList_build_v rfl 35 #[(0, .tmp 5), (1, .tmp 7)] rfl D0 [(0, .int .i64 6), (1, .int .i64 a.tick)] (by rw [Array.toList_map]; rfl) HH0.out.1 ?_) | ((with_reducible refine wpList_op (.store 35 (.tmp 3) (.tmp 8)) rfl ?_); refine wpList_store_row rfl 35 (.tmp 3) (.tmp 8) rfl (w.heap.size + 1 + 1) D0 rfl rfl 35 _ HH1.out.1 HH0.out.2.1 HH0.out.2.2.2 HH0.out.2.2.1 ?_; rw [HH1.out.2]))
  go_region
  all_goals (go_wp2_with (first | ((with_reducible refine wpList_at 101 rfl ?_); refine wpList_load_row_g (by rfl) 35 (.tmp 3) rfl (w.heap.size + 1 + 1) rfl 35 D (0, 0) _ HC0.out Tryz.underlying35 rfl HH2.out.1 ?_) | ((with_reducible refine wpList_op (.store 35 (.tmp 2) (.tmp 101)) rfl ?_); refine wpList_store_row rfl 35 (.tmp 2) (.tmp 101) rfl (w.heap.size + 1) D rfl rfl 35 _ HO0.out HH2.out.1 HH2.out.2.1 HH2.out.2.2 ?_)))
  all_goals (refine bodyPost_ret (results_cell1 Tryz.results69 _ _ (w.heap.size + 1) 35 D (0, 0) _ (by rfl) (setRow_heap _ _ _ _ _ _ HO0.out) Tryz.underlying35 rfl HH2.out.1) rfl ?_)
  all_goals (have HEX := HE0.out)
  all_goals (refine ⟨({ EvM.zero 6 a.tick with call := a.call, who := a.who, epoch := a.epoch } : EvM), by rw [HDV.out], ?_, ⟨Sl.empty, ⟨SrcsAt.empty, Sl.empty⟩, Sl.empty⟩, ⟨Nat.zero_le _, (fun s hs => by cases hs), Nat.zero_le _⟩, below_setR HEX (by omega) D⟩)
  all_goals (
    unfold onlyE
    rw [show a.con.kind = 6 from HA.out.2.2.2]
    rfl
  )
set_option maxRecDepth 100000 in
set_option maxHeartbeats 8000000 in
theorem onlyEv_7 (a : EvM) (w : World) (B : Nat) (hat : EvAt w B a) (hB : B ≤ w.heap.size) (hl : ActL a.act) (hk : a.kind = 7) : Calls Tryz.prog 69 #[evV a] w (RetOE a B w) := by
  obtain ⟨C, D0, X1, hp⟩ := only_pre a w 7 hk
  obtain ⟨hv, c0, c1, hbt, hsz0, hone0, hold0, hb1, hb2, hb3, hbe, hoy, hsr⟩ := hp
  have HBL := Lib.hid (And.intro hb1 (And.intro hb2 (And.intro hb3 hbe)))
  have p2 := HBL.out.1.cell (j := 2) (u := .int .i64 a.who) rfl
  have p5 := HBL.out.1.cell (j := 5) (u := .int .i64 a.n) rfl
  have p6 := HBL.out.1.cell (j := 6) (u := .int .i64 a.eterm) rfl
  have p7 := HBL.out.1.cell (j := 7) (u := .int .i64 a.ekind) rfl
  have p8 := HBL.out.1.cell (j := 8) (u := .slice a.eA a.ebody.length a.ec) rfl
  have p0 : X1.cell? ⟨w.heap.size, 0, none⟩ = some (.int .i64 7) := by rw [← hk]; exact HBL.out.1.cell (j := 0) rfl
  have q2 := HBL.out.2.2.1.cell (j := 2) rfl
  have f2 := HBL.out.2.2.1.free 2
  have q5 := HBL.out.2.2.1.cell (j := 5) rfl
  have f5 := HBL.out.2.2.1.free 5
  have q6 := HBL.out.2.2.1.cell (j := 6) rfl
  have f6 := HBL.out.2.2.1.free 6
  have q7 := HBL.out.2.2.1.cell (j := 7) rfl
  have f7 := HBL.out.2.2.1.free 7
  have q8 := HBL.out.2.2.1.cell (j := 8) rfl
  have f8 := HBL.out.2.2.1.free 8
  have hlt3 := HBL.out.2.2.1.lt
  have hlt1 := HBL.out.1.lt
  obtain ⟨D, hD⟩ : ∃ D, D = (evCs ({ EvM.zero 7 a.tick with who := a.who, n := a.n, eterm := a.eterm, ekind := a.ekind, eA := a.eA, ec := a.ec, ebody := a.ebody } : EvM)).toArray := ⟨_, rfl⟩
  have hszd : (Tryz.prog.info? 35).map (·.size) = some D.size := by rw [hD]; exact ev_size
  have holdd := (z28_size ({ EvM.zero 7 a.tick with who := a.who, n := a.n, eterm := a.eterm, ekind := a.ekind, eA := a.eA, ec := a.ec, ebody := a.ebody } : EvM)).trans (congrArg Array.size hD.symm)
  have honed : D.all (·.oneCell') = true := by rw [hD]; exact evCs_one _
  have HDV := Lib.hid (show evV ({ EvM.zero 7 a.tick with who := a.who, n := a.n, eterm := a.eterm, ekind := a.ekind, eA := a.eA, ec := a.ec, ebody := a.ebody } : EvM) = .agg D by rw [hD]; rfl)
  have HC0 : Hid ((((((X1.drew.setCell ⟨w.heap.size + 1 + 1, 2, none⟩ (.int .i64 a.who)).setCell ⟨w.heap.size + 1 + 1, 5, none⟩ (.int .i64 a.n)).setCell ⟨w.heap.size + 1 + 1, 6, none⟩ (.int .i64 a.eterm)).setCell ⟨w.heap.size + 1 + 1, 7, none⟩ (.int .i64 a.ekind)).setCell ⟨w.heap.size + 1 + 1, 8, none⟩ (.slice a.eA a.ebody.length a.ec)).heap[w.heap.size + 1 + 1]? = some (.cells D 35 (0, 0))) := Lib.hid (by rw [hD]; exact (((((HBL.out.2.2.1.set 2 (.int .i64 a.who)).set 5 (.int .i64 a.n)).set 6 (.int .i64 a.eterm)).set 7 (.int .i64 a.ekind)).set 8 (.slice a.eA a.ebody.length a.ec)))
  have HO0 := Lib.hid (show (((((X1.drew.setCell ⟨w.heap.size + 1 + 1, 2, none⟩ (.int .i64 a.who)).setCell ⟨w.heap.size + 1 + 1, 5, none⟩ (.int .i64 a.n)).setCell ⟨w.heap.size + 1 + 1, 6, none⟩ (.int .i64 a.eterm)).setCell ⟨w.heap.size + 1 + 1, 7, none⟩ (.int .i64 a.ekind)).setCell ⟨w.heap.size + 1 + 1, 8, none⟩ (.slice a.eA a.ebody.length a.ec)).heap[w.heap.size + 1]? = some (.cells _ _ _) from (((((HBL.out.2.1.other (g := w.heap.size + 1 + 1) (by omega) 2 (.int .i64 a.who)).other (g := w.heap.size + 1 + 1) (by omega) 5 (.int .i64 a.n)).other (g := w.heap.size + 1 + 1) (by omega) 6 (.int .i64 a.eterm)).other (g := w.heap.size + 1 + 1) (by omega) 7 (.int .i64 a.ekind)).other (g := w.heap.size + 1 + 1) (by omega) 8 (.slice a.eA a.ebody.length a.ec)))
  have HE0 := Lib.hid (((((((show Below w.heap.size w X1.drew from ⟨HBL.out.2.2.2.os, HBL.out.2.2.2.tape, HBL.out.2.2.2.output, HBL.out.2.2.2.size, HBL.out.2.2.2.block⟩).setCell (p := ⟨w.heap.size + 1 + 1, 2, none⟩) (by show w.heap.size ≤ w.heap.size + 1 + 1; omega) (.int .i64 a.who)).setCell (p := ⟨w.heap.size + 1 + 1, 5, none⟩) (by show w.heap.size ≤ w.heap.size + 1 + 1; omega) (.int .i64 a.n)).setCell (p := ⟨w.heap.size + 1 + 1, 6, none⟩) (by show w.heap.size ≤ w.heap.size + 1 + 1; omega) (.int .i64 a.eterm)).setCell (p := ⟨w.heap.size + 1 + 1, 7, none⟩) (by show w.heap.size ≤ w.heap.size + 1 + 1; omega) (.int .i64 a.ekind)).setCell (p := ⟨w.heap.size + 1 + 1, 8, none⟩) (by show w.heap.size ≤ w.heap.size + 1 + 1; omega) (.slice a.eA a.ebody.length a.ec)))
  clear hD
  have HMI := Lib.hid (And.intro (show (Tryz.prog.info? 25).map (·.size) = some 3 by kernel_rfl) (show (#[.int .i64 a.eterm, .int .i64 a.ekind, .slice a.eA a.ebody.length a.ec] : Array Value).all (·.oneCell') = true by simp [Value.oneCell']))
  have HPT := Lib.hid (show ∀ X : World, X.rangeAt w.heap.size 0 (evCs a) → X.rangeAt w.heap.size 6 [.int .i64 a.eterm, .int .i64 a.ekind, .slice a.eA a.ebody.length a.ec] from fun X h => range_part h (fun j v hj => by
    match j, hj with
    | 0, hj => exact hj
    | 1, hj => exact hj
    | 2, hj => exact hj
    | j + 3, hj => simp at hj))
  have HA := Lib.hid (And.intro hat (And.intro hl (And.intro hB hk)))
  have HH0 := Lib.hid (And.intro hbt (And.intro hsz0 (And.intro hone0 hold0)))
  have HH1 := Lib.hid (And.intro hoy hsr)
  have HH2 := Lib.hid (And.intro hszd (And.intro holdd honed))
  rw [hv]
  clear hv hb1 hb2 hb3 hbe hat hl hB hk hbt hsz0 hone0 hold0 hoy hsr hszd holdd honed
  go_enter Tryz.func69, Tryz.ntmps69
  go_wp2_with (first | ((with_reducible refine wpList_at 8 rfl ?_); refine wpList_build_v rfl 35 #[(0, .tmp 5), (1, .tmp 7)] rfl D0 [(0, .int .i64 7), (1, .int .i64 a.tick)] (by rw [Array.toList_map]; rfl) HH0.out.1 ?_) | ((with_reducible refine wpList_op (.store 35 (.tmp 3) (.tmp 8)) rfl ?_); refine wpList_store_row rfl 35 (.tmp 3) (.tmp 8) rfl (w.heap.size + 1 + 1) D0 rfl rfl 35 _ HH1.out.1 HH0.out.2.1 HH0.out.2.2.2 HH0.out.2.2.1 ?_; rw [HH1.out.2]))
  refine wp_region_held_drew (S := fun W' => W'.rangeAt w.heap.size 0 (evCs a)) (by kernel_rfl) (blk_range HBL.out.1) (fun hHeld => ?_)
  refine wpAnyH_take (i := 0) (v := .pointer (some ⟨w.heap.size, 2, none⟩)) rfl (by kernel_rfl) (by kernel_rfl) (by kernel_rfl) (fun _ _ _ h => h) (Or.inl ⟨by rfl, ?_⟩) (by assumption) ?_
  · intro w' hSw
    go_simp
  show wpAnyH _ _ _ _ _ _ _ (Act.put _ (some 51) _) _
  simp only [Act.put, List.setIfInBounds_toArray, List.set_cons_zero, List.set_cons_succ]
  refine wpAnyH_take (i := 1) (v := .int .i64 a.who) rfl (by kernel_rfl) (by kernel_rfl) (by kernel_rfl) (fun _ _ _ h => h) (Or.inl ⟨by rfl, ?_⟩) (by assumption) ?_
  · intro w' hSw
    have hc : w'.cell? ⟨w.heap.size, 2, none⟩ = some (.int .i64 a.who) := by have h := hSw 2 _ rfl; simpa using h
    go_simp
  show wpAnyH _ _ _ _ _ _ _ (Act.put _ (some 52) _) _
  simp only [Act.put, List.setIfInBounds_toArray, List.set_cons_zero, List.set_cons_succ]
  refine wpAnyH_take (i := 2) (v := .pointer (some ⟨w.heap.size, 5, none⟩)) rfl (by kernel_rfl) (by kernel_rfl) (by kernel_rfl) (fun _ _ _ h => h) (Or.inl ⟨by rfl, ?_⟩) (by assumption) ?_
  · intro w' hSw
    go_simp
  show wpAnyH _ _ _ _ _ _ _ (Act.put _ (some 53) _) _
  simp only [Act.put, List.setIfInBounds_toArray, List.set_cons_zero, List.set_cons_succ]
  refine wpAnyH_take (i := 3) (v := .int .i64 a.n) rfl (by kernel_rfl) (by kernel_rfl) (by kernel_rfl) (fun _ _ _ h => h) (Or.inl ⟨by rfl, ?_⟩) (by assumption) ?_
  · intro w' hSw
    have hc : w'.cell? ⟨w.heap.size, 5, none⟩ = some (.int .i64 a.n) := by have h := hSw 5 _ rfl; simpa using h
    go_simp
  show wpAnyH _ _ _ _ _ _ _ (Act.put _ (some 54) _) _
  simp only [Act.put, List.setIfInBounds_toArray, List.set_cons_zero, List.set_cons_succ]
  refine wpAnyH_take (i := 4) (v := .pointer (some ⟨w.heap.size, 6, none⟩)) rfl (by kernel_rfl) (by kernel_rfl) (by kernel_rfl) (fun _ _ _ h => h) (Or.inl ⟨by rfl, ?_⟩) (by assumption) ?_
  · intro w' hSw
    go_simp
  show wpAnyH _ _ _ _ _ _ _ (Act.put _ (some 55) _) _
  simp only [Act.put, List.setIfInBounds_toArray, List.set_cons_zero, List.set_cons_succ]
  refine wpAnyH_take (i := 5) (v := .agg #[.int .i64 a.eterm, .int .i64 a.ekind, .slice a.eA a.ebody.length a.ec]) rfl (by kernel_rfl) (by kernel_rfl) (by kernel_rfl) (fun _ _ _ h => h) (yieldsIf_load_mid (by rfl) 25 (.tmp 55) rfl w.heap.size 6 rfl [.int .i64 a.eterm, .int .i64 a.ekind, .slice a.eA a.ebody.length a.ec] _ (fun w' hSw => HPT.out w' hSw) Tryz.underlying25 rfl HMI.out.1) (by assumption) ?_
  show wpAnyH _ _ _ _ _ _ _ (Act.put _ (some 56) _) _
  simp only [Act.put, List.setIfInBounds_toArray, List.set_cons_zero, List.set_cons_succ]
  refine wpAnyH_take (i := 6) (v := .pointer (some ⟨w.heap.size + 1 + 1, 2, none⟩)) rfl (by kernel_rfl) (by kernel_rfl) (by kernel_rfl) (fun _ _ _ h => h) (Or.inl ⟨by rfl, ?_⟩) (by assumption) ?_
  · intro w' hSw
    go_simp
  show wpAnyH _ _ _ _ _ _ _ (Act.put _ (some 57) _) _
  simp only [Act.put, List.setIfInBounds_toArray, List.set_cons_zero, List.set_cons_succ]
  refine wpAnyH_ready (rs := [7]) (by kernel_rfl) (by simp) ?_
  refine AllReadyH.cons rfl (fun K hK => ?_) AllReadyH.nil
  have hz0 := Blk.cell (j := 2) HBL.out.2.2.1 rfl
  have hy0 := Blk.free HBL.out.2.2.1 2
  have hl0 := Blk.lt HBL.out.2.2.1
  go_simp
  refine hK.out _ _ (blk_range (HBL.out.1.other (g := w.heap.size + 1 + 1) (by omega) 2 (.int .i64 a.who))) (fun hHeld => ?_)
  clear hK K hz0 hy0 hl0
  refine wpAnyH_take (i := 8) (v := .pointer (some ⟨w.heap.size + 1 + 1, 5, none⟩)) rfl (by kernel_rfl) (by kernel_rfl) (by kernel_rfl) (fun _ _ _ h => h) (Or.inl ⟨by rfl, ?_⟩) (by assumption) ?_
  · intro w' hSw
    go_simp
  show wpAnyH _ _ _ _ _ _ _ (Act.put _ (some 58) _) _
  simp only [Act.put, List.setIfInBounds_toArray, List.set_cons_zero, List.set_cons_succ]
  refine wpAnyH_ready (rs := [9]) (by kernel_rfl) (by simp) ?_
  refine AllReadyH.cons rfl (fun K hK => ?_) AllReadyH.nil
  have hz1 := Blk.cell (j := 5) (HBL.out.2.2.1.set 2 (.int .i64 a.who)) rfl
  have hy1 := Blk.free (HBL.out.2.2.1.set 2 (.int .i64 a.who)) 5
  have hl1 := Blk.lt (HBL.out.2.2.1.set 2 (.int .i64 a.who))
  go_simp
  refine hK.out _ _ (blk_range ((HBL.out.1.other (g := w.heap.size + 1 + 1) (by omega) 2 (.int .i64 a.who)).other (g := w.heap.size + 1 + 1) (by omega) 5 (.int .i64 a.n))) (fun hHeld => ?_)
  clear hK K hz1 hy1 hl1
  refine wpAnyH_take (i := 10) (v := .pointer (some ⟨w.heap.size + 1 + 1, 6, none⟩)) rfl (by kernel_rfl) (by kernel_rfl) (by kernel_rfl) (fun _ _ _ h => h) (Or.inl ⟨by rfl, ?_⟩) (by assumption) ?_
  · intro w' hSw
    go_simp
  show wpAnyH _ _ _ _ _ _ _ (Act.put _ (some 59) _) _
  simp only [Act.put, List.setIfInBounds_toArray, List.set_cons_zero, List.set_cons_succ]
  refine wpAnyH_ready (rs := [11]) (by kernel_rfl) (by simp) ?_
  refine AllReadyH.cons rfl (fun K hK => ?_) AllReadyH.nil
  refine step_store_mid (by rfl) 25 (.tmp 59) (.tmp 56) rfl (w.heap.size + 1 + 1) 6 #[.int .i64 a.eterm, .int .i64 a.ekind, .slice a.eA a.ebody.length a.ec] rfl rfl (blk_there ((HBL.out.2.2.1.set 2 (.int .i64 a.who)).set 5 (.int .i64 a.n)) (Nat.le_of_ble_eq_true rfl)) HMI.out.1 HMI.out.2 (((((X1.drew.setCell ⟨w.heap.size + 1 + 1, 2, none⟩ (.int .i64 a.who)).setCell ⟨w.heap.size + 1 + 1, 5, none⟩ (.int .i64 a.n)).setCell ⟨w.heap.size + 1 + 1, 6, none⟩ (.int .i64 a.eterm)).setCell ⟨w.heap.size + 1 + 1, 7, none⟩ (.int .i64 a.ekind)).setCell ⟨w.heap.size + 1 + 1, 8, none⟩ (.slice a.eA a.ebody.length a.ec)) rfl ?_
  refine hK.out _ _ (blk_range (((((HBL.out.1.other (g := w.heap.size + 1 + 1) (by omega) 2 (.int .i64 a.who)).other (g := w.heap.size + 1 + 1) (by omega) 5 (.int .i64 a.n)).other (g := w.heap.size + 1 + 1) (by omega) 6 (.int .i64 a.eterm)).other (g := w.heap.size + 1 + 1) (by omega) 7 (.int .i64 a.ekind)).other (g := w.heap.size + 1 + 1) (by omega) 8 (.slice a.eA a.ebody.length a.ec))) (fun hHeld => ?_)
  clear hK K
  refine wpAnyH_done (by kernel_rfl) ?_ _
  all_goals (go_wp2_with (first | ((with_reducible refine wpList_at 101 rfl ?_); refine wpList_load_row_g (by rfl) 35 (.tmp 3) rfl (w.heap.size + 1 + 1) rfl 35 D (0, 0) _ HC0.out Tryz.underlying35 rfl HH2.out.1 ?_) | ((with_reducible refine wpList_op (.store 35 (.tmp 2) (.tmp 101)) rfl ?_); refine wpList_store_row rfl 35 (.tmp 2) (.tmp 101) rfl (w.heap.size + 1) D rfl rfl 35 _ HO0.out HH2.out.1 HH2.out.2.1 HH2.out.2.2 ?_)))
  all_goals (refine bodyPost_ret (results_cell1 Tryz.results69 _ _ (w.heap.size + 1) 35 D (0, 0) _ (by rfl) (setRow_heap _ _ _ _ _ _ HO0.out) Tryz.underlying35 rfl HH2.out.1) rfl ?_)
  all_goals (have HEX := HE0.out)
  all_goals (refine ⟨({ EvM.zero 7 a.tick with who := a.who, n := a.n, eterm := a.eterm, ekind := a.ekind, eA := a.eA, ec := a.ec, ebody := a.ebody } : EvM), by rw [HDV.out], ?_, ⟨Sl.below HA.out.1.body (Below.mono (below_setR HEX (by omega) D) HA.out.2.2.1), ⟨SrcsAt.empty, Sl.empty⟩, Sl.empty⟩, ⟨Nat.zero_le _, (fun s hs => by cases hs), Nat.zero_le _⟩, below_setR HEX (by omega) D⟩)
  all_goals (
    unfold onlyE
    rw [show a.con.kind = 7 from HA.out.2.2.2]
    rfl
  )
end
section
open Go.RowKit Go.Maps

set_option maxRecDepth 100000 in
set_option maxHeartbeats 8000000 in
theorem onlyEv_8 (a : EvM) (w : World) (B : Nat) (hat : EvAt w B a) (hB : B ≤ w.heap.size) (hl : ActL a.act) (hk : a.kind = 8) : Calls Tryz.prog 69 #[evV a] w (RetOE a B w) := by
  obtain ⟨C, D0, X1, hp⟩ := only_pre a w 8 hk
  obtain ⟨hv, c0, c1, hbt, hsz0, hone0, hold0, hb1, hb2, hb3, hbe, hoy, hsr⟩ := hp
  have HBL := Lib.hid (And.intro hb1 (And.intro hb2 (And.intro hb3 hbe)))
  have p2 := HBL.out.1.cell (j := 2) (u := .int .i64 a.who) rfl
  have p9 := HBL.out.1.cell (j := 9) (u := .int .i64 a.ord.unit) rfl
  have p10 := HBL.out.1.cell (j := 10) (u := .int .i64 a.ord.epoch) rfl
  have p11 := HBL.out.1.cell (j := 11) (u := .int .i64 a.ord.kind) rfl
  have p12 := HBL.out.1.cell (j := 12) (u := .int .i64 a.ord.incident) rfl
  have p13 := HBL.out.1.cell (j := 13) (u := .int .i64 a.ord.node) rfl
  have p0 : X1.cell? ⟨w.heap.size, 0, none⟩ = some (.int .i64 8) := by rw [← hk]; exact HBL.out.1.cell (j := 0) rfl
  have q2 := HBL.out.2.2.1.cell (j := 2) rfl
  have f2 := HBL.out.2.2.1.free 2
  have q9 := HBL.out.2.2.1.cell (j := 9) rfl
  have f9 := HBL.out.2.2.1.free 9
  have q10 := HBL.out.2.2.1.cell (j := 10) rfl
  have f10 := HBL.out.2.2.1.free 10
  have q11 := HBL.out.2.2.1.cell (j := 11) rfl
  have f11 := HBL.out.2.2.1.free 11
  have q12 := HBL.out.2.2.1.cell (j := 12) rfl
  have f12 := HBL.out.2.2.1.free 12
  have q13 := HBL.out.2.2.1.cell (j := 13) rfl
  have f13 := HBL.out.2.2.1.free 13
  have hlt3 := HBL.out.2.2.1.lt
  have hlt1 := HBL.out.1.lt
  obtain ⟨D, hD⟩ : ∃ D, D = (evCs ({ EvM.zero 8 a.tick with who := a.who, ord := a.ord } : EvM)).toArray := ⟨_, rfl⟩
  have hszd : (Tryz.prog.info? 35).map (·.size) = some D.size := by rw [hD]; exact ev_size
  have holdd := (z28_size ({ EvM.zero 8 a.tick with who := a.who, ord := a.ord } : EvM)).trans (congrArg Array.size hD.symm)
  have honed : D.all (·.oneCell') = true := by rw [hD]; exact evCs_one _
  have HDV := Lib.hid (show evV ({ EvM.zero 8 a.tick with who := a.who, ord := a.ord } : EvM) = .agg D by rw [hD]; rfl)
  have HC0 : Hid (((((((X1.drew.setCell ⟨w.heap.size + 1 + 1, 2, none⟩ (.int .i64 a.who)).setCell ⟨w.heap.size + 1 + 1, 9, none⟩ (.int .i64 a.ord.unit)).setCell ⟨w.heap.size + 1 + 1, 10, none⟩ (.int .i64 a.ord.epoch)).setCell ⟨w.heap.size + 1 + 1, 11, none⟩ (.int .i64 a.ord.kind)).setCell ⟨w.heap.size + 1 + 1, 12, none⟩ (.int .i64 a.ord.incident)).setCell ⟨w.heap.size + 1 + 1, 13, none⟩ (.int .i64 a.ord.node)).heap[w.heap.size + 1 + 1]? = some (.cells D 35 (0, 0))) := Lib.hid (by rw [hD]; exact ((((((HBL.out.2.2.1.set 2 (.int .i64 a.who)).set 9 (.int .i64 a.ord.unit)).set 10 (.int .i64 a.ord.epoch)).set 11 (.int .i64 a.ord.kind)).set 12 (.int .i64 a.ord.incident)).set 13 (.int .i64 a.ord.node)))
  have HO0 := Lib.hid (show ((((((X1.drew.setCell ⟨w.heap.size + 1 + 1, 2, none⟩ (.int .i64 a.who)).setCell ⟨w.heap.size + 1 + 1, 9, none⟩ (.int .i64 a.ord.unit)).setCell ⟨w.heap.size + 1 + 1, 10, none⟩ (.int .i64 a.ord.epoch)).setCell ⟨w.heap.size + 1 + 1, 11, none⟩ (.int .i64 a.ord.kind)).setCell ⟨w.heap.size + 1 + 1, 12, none⟩ (.int .i64 a.ord.incident)).setCell ⟨w.heap.size + 1 + 1, 13, none⟩ (.int .i64 a.ord.node)).heap[w.heap.size + 1]? = some (.cells _ _ _) from ((((((HBL.out.2.1.other (g := w.heap.size + 1 + 1) (by omega) 2 (.int .i64 a.who)).other (g := w.heap.size + 1 + 1) (by omega) 9 (.int .i64 a.ord.unit)).other (g := w.heap.size + 1 + 1) (by omega) 10 (.int .i64 a.ord.epoch)).other (g := w.heap.size + 1 + 1) (by omega) 11 (.int .i64 a.ord.kind)).other (g := w.heap.size + 1 + 1) (by omega) 12 (.int .i64 a.ord.incident)).other (g := w.heap.size + 1 + 1) (by omega) 13 (.int .i64 a.ord.node)))
  have HE0 := Lib.hid ((((((((show Below w.heap.size w X1.drew from ⟨HBL.out.2.2.2.os, HBL.out.2.2.2.tape, HBL.out.2.2.2.output, HBL.out.2.2.2.size, HBL.out.2.2.2.block⟩).setCell (p := ⟨w.heap.size + 1 + 1, 2, none⟩) (by show w.heap.size ≤ w.heap.size + 1 + 1; omega) (.int .i64 a.who)).setCell (p := ⟨w.heap.size + 1 + 1, 9, none⟩) (by show w.heap.size ≤ w.heap.size + 1 + 1; omega) (.int .i64 a.ord.unit)).setCell (p := ⟨w.heap.size + 1 + 1, 10, none⟩) (by show w.heap.size ≤ w.heap.size + 1 + 1; omega) (.int .i64 a.ord.epoch)).setCell (p := ⟨w.heap.size + 1 + 1, 11, none⟩) (by show w.heap.size ≤ w.heap.size + 1 + 1; omega) (.int .i64 a.ord.kind)).setCell (p := ⟨w.heap.size + 1 + 1, 12, none⟩) (by show w.heap.size ≤ w.heap.size + 1 + 1; omega) (.int .i64 a.ord.incident)).setCell (p := ⟨w.heap.size + 1 + 1, 13, none⟩) (by show w.heap.size ≤ w.heap.size + 1 + 1; omega) (.int .i64 a.ord.node)))
  clear hD
  have HMI := Lib.hid (And.intro (show (Tryz.prog.info? 27).map (·.size) = some 5 by kernel_rfl) (show (#[.int .i64 a.ord.unit, .int .i64 a.ord.epoch, .int .i64 a.ord.kind, .int .i64 a.ord.incident, .int .i64 a.ord.node] : Array Value).all (·.oneCell') = true by simp [Value.oneCell']))
  have HPT := Lib.hid (show ∀ X : World, X.rangeAt w.heap.size 0 (evCs a) → X.rangeAt w.heap.size 9 [.int .i64 a.ord.unit, .int .i64 a.ord.epoch, .int .i64 a.ord.kind, .int .i64 a.ord.incident, .int .i64 a.ord.node] from fun X h => range_part h (fun j v hj => by
    match j, hj with
    | 0, hj => exact hj
    | 1, hj => exact hj
    | 2, hj => exact hj
    | 3, hj => exact hj
    | 4, hj => exact hj
    | j + 5, hj => simp at hj))
  have HA := Lib.hid (And.intro hat (And.intro hl (And.intro hB hk)))
  have HH0 := Lib.hid (And.intro hbt (And.intro hsz0 (And.intro hone0 hold0)))
  have HH1 := Lib.hid (And.intro hoy hsr)
  have HH2 := Lib.hid (And.intro hszd (And.intro holdd honed))
  rw [hv]
  clear hv hb1 hb2 hb3 hbe hat hl hB hk hbt hsz0 hone0 hold0 hoy hsr hszd holdd honed
  go_enter Tryz.func69, Tryz.ntmps69
  go_wp2_with (first | ((with_reducible refine wpList_at 8 rfl ?_); refine wpList_build_v rfl 35 #[(0, .tmp 5), (1, .tmp 7)] rfl D0 [(0, .int .i64 8), (1, .int .i64 a.tick)] (by rw [Array.toList_map]; rfl) HH0.out.1 ?_) | ((with_reducible refine wpList_op (.store 35 (.tmp 3) (.tmp 8)) rfl ?_); refine wpList_store_row rfl 35 (.tmp 3) (.tmp 8) rfl (w.heap.size + 1 + 1) D0 rfl rfl 35 _ HH1.out.1 HH0.out.2.1 HH0.out.2.2.2 HH0.out.2.2.1 ?_; rw [HH1.out.2]))
  refine wp_region_held_drew (S := fun W' => W'.rangeAt w.heap.size 0 (evCs a)) (by kernel_rfl) (blk_range HBL.out.1) (fun hHeld => ?_)
  refine wpAnyH_take (i := 0) (v := .pointer (some ⟨w.heap.size, 2, none⟩)) rfl (by kernel_rfl) (by kernel_rfl) (by kernel_rfl) (fun _ _ _ h => h) (Or.inl ⟨by rfl, ?_⟩) (by assumption) ?_
  · intro w' hSw
    go_simp
  show wpAnyH _ _ _ _ _ _ _ (Act.put _ (some 62) _) _
  simp only [Act.put, List.setIfInBounds_toArray, List.set_cons_zero, List.set_cons_succ]
  refine wpAnyH_take (i := 1) (v := .int .i64 a.who) rfl (by kernel_rfl) (by kernel_rfl) (by kernel_rfl) (fun _ _ _ h => h) (Or.inl ⟨by rfl, ?_⟩) (by assumption) ?_
  · intro w' hSw
    have hc : w'.cell? ⟨w.heap.size, 2, none⟩ = some (.int .i64 a.who) := by have h := hSw 2 _ rfl; simpa using h
    go_simp
  show wpAnyH _ _ _ _ _ _ _ (Act.put _ (some 63) _) _
  simp only [Act.put, List.setIfInBounds_toArray, List.set_cons_zero, List.set_cons_succ]
  refine wpAnyH_take (i := 2) (v := .pointer (some ⟨w.heap.size, 9, none⟩)) rfl (by kernel_rfl) (by kernel_rfl) (by kernel_rfl) (fun _ _ _ h => h) (Or.inl ⟨by rfl, ?_⟩) (by assumption) ?_
  · intro w' hSw
    go_simp
  show wpAnyH _ _ _ _ _ _ _ (Act.put _ (some 64) _) _
  simp only [Act.put, List.setIfInBounds_toArray, List.set_cons_zero, List.set_cons_succ]
  refine wpAnyH_take (i := 3) (v := .agg #[.int .i64 a.ord.unit, .int .i64 a.ord.epoch, .int .i64 a.ord.kind, .int .i64 a.ord.incident, .int .i64 a.ord.node]) rfl (by kernel_rfl) (by kernel_rfl) (by kernel_rfl) (fun _ _ _ h => h) (yieldsIf_load_mid (by rfl) 27 (.tmp 64) rfl w.heap.size 9 rfl [.int .i64 a.ord.unit, .int .i64 a.ord.epoch, .int .i64 a.ord.kind, .int .i64 a.ord.incident, .int .i64 a.ord.node] _ (fun w' hSw => HPT.out w' hSw) Tryz.underlying27 rfl HMI.out.1) (by assumption) ?_
  show wpAnyH _ _ _ _ _ _ _ (Act.put _ (some 65) _) _
  simp only [Act.put, List.setIfInBounds_toArray, List.set_cons_zero, List.set_cons_succ]
  refine wpAnyH_take (i := 4) (v := .pointer (some ⟨w.heap.size + 1 + 1, 2, none⟩)) rfl (by kernel_rfl) (by kernel_rfl) (by kernel_rfl) (fun _ _ _ h => h) (Or.inl ⟨by rfl, ?_⟩) (by assumption) ?_
  · intro w' hSw
    go_simp
  show wpAnyH _ _ _ _ _ _ _ (Act.put _ (some 66) _) _
  simp only [Act.put, List.setIfInBounds_toArray, List.set_cons_zero, List.set_cons_succ]
  refine wpAnyH_ready (rs := [5]) (by kernel_rfl) (by simp) ?_
  refine AllReadyH.cons rfl (fun K hK => ?_) AllReadyH.nil
  have hz0 := Blk.cell (j := 2) HBL.out.2.2.1 rfl
  have hy0 := Blk.free HBL.out.2.2.1 2
  have hl0 := Blk.lt HBL.out.2.2.1
  go_simp
  refine hK.out _ _ (blk_range (HBL.out.1.other (g := w.heap.size + 1 + 1) (by omega) 2 (.int .i64 a.who))) (fun hHeld => ?_)
  clear hK K hz0 hy0 hl0
  refine wpAnyH_take (i := 6) (v := .pointer (some ⟨w.heap.size + 1 + 1, 9, none⟩)) rfl (by kernel_rfl) (by kernel_rfl) (by kernel_rfl) (fun _ _ _ h => h) (Or.inl ⟨by rfl, ?_⟩) (by assumption) ?_
  · intro w' hSw
    go_simp
  show wpAnyH _ _ _ _ _ _ _ (Act.put _ (some 67) _) _
  simp only [Act.put, List.setIfInBounds_toArray, List.set_cons_zero, List.set_cons_succ]
  refine wpAnyH_ready (rs := [7]) (by kernel_rfl) (by simp) ?_
  refine AllReadyH.cons rfl (fun K hK => ?_) AllReadyH.nil
  refine step_store_mid (by rfl) 27 (.tmp 67) (.tmp 65) rfl (w.heap.size + 1 + 1) 9 #[.int .i64 a.ord.unit, .int .i64 a.ord.epoch, .int .i64 a.ord.kind, .int .i64 a.ord.incident, .int .i64 a.ord.node] rfl rfl (blk_there (HBL.out.2.2.1.set 2 (.int .i64 a.who)) (Nat.le_of_ble_eq_true rfl)) HMI.out.1 HMI.out.2 ((((((X1.drew.setCell ⟨w.heap.size + 1 + 1, 2, none⟩ (.int .i64 a.who)).setCell ⟨w.heap.size + 1 + 1, 9, none⟩ (.int .i64 a.ord.unit)).setCell ⟨w.heap.size + 1 + 1, 10, none⟩ (.int .i64 a.ord.epoch)).setCell ⟨w.heap.size + 1 + 1, 11, none⟩ (.int .i64 a.ord.kind)).setCell ⟨w.heap.size + 1 + 1, 12, none⟩ (.int .i64 a.ord.incident)).setCell ⟨w.heap.size + 1 + 1, 13, none⟩ (.int .i64 a.ord.node)) rfl ?_
  refine hK.out _ _ (blk_range ((((((HBL.out.1.other (g := w.heap.size + 1 + 1) (by omega) 2 (.int .i64 a.who)).other (g := w.heap.size + 1 + 1) (by omega) 9 (.int .i64 a.ord.unit)).other (g := w.heap.size + 1 + 1) (by omega) 10 (.int .i64 a.ord.epoch)).other (g := w.heap.size + 1 + 1) (by omega) 11 (.int .i64 a.ord.kind)).other (g := w.heap.size + 1 + 1) (by omega) 12 (.int .i64 a.ord.incident)).other (g := w.heap.size + 1 + 1) (by omega) 13 (.int .i64 a.ord.node))) (fun hHeld => ?_)
  clear hK K
  refine wpAnyH_done (by kernel_rfl) ?_ _
  all_goals (go_wp2_with (first | ((with_reducible refine wpList_at 101 rfl ?_); refine wpList_load_row_g (by rfl) 35 (.tmp 3) rfl (w.heap.size + 1 + 1) rfl 35 D (0, 0) _ HC0.out Tryz.underlying35 rfl HH2.out.1 ?_) | ((with_reducible refine wpList_op (.store 35 (.tmp 2) (.tmp 101)) rfl ?_); refine wpList_store_row rfl 35 (.tmp 2) (.tmp 101) rfl (w.heap.size + 1) D rfl rfl 35 _ HO0.out HH2.out.1 HH2.out.2.1 HH2.out.2.2 ?_)))
  all_goals (refine bodyPost_ret (results_cell1 Tryz.results69 _ _ (w.heap.size + 1) 35 D (0, 0) _ (by rfl) (setRow_heap _ _ _ _ _ _ HO0.out) Tryz.underlying35 rfl HH2.out.1) rfl ?_)
  all_goals (have HEX := HE0.out)
  all_goals (refine ⟨({ EvM.zero 8 a.tick with who := a.who, ord := a.ord } : EvM), by rw [HDV.out], ?_, ⟨Sl.empty, ⟨SrcsAt.empty, Sl.empty⟩, Sl.empty⟩, ⟨Nat.zero_le _, (fun s hs => by cases hs), Nat.zero_le _⟩, below_setR HEX (by omega) D⟩)
  all_goals (
    unfold onlyE
    rw [show a.con.kind = 8 from HA.out.2.2.2]
    rfl
  )
set_option maxRecDepth 100000 in
set_option maxHeartbeats 8000000 in
theorem onlyEv_9 (a : EvM) (w : World) (B : Nat) (hat : EvAt w B a) (hB : B ≤ w.heap.size) (hl : ActL a.act) (hk : a.kind = 9) : Calls Tryz.prog 69 #[evV a] w (RetOE a B w) := by
  obtain ⟨C, D0, X1, hp⟩ := only_pre a w 9 hk
  obtain ⟨hv, c0, c1, hbt, hsz0, hone0, hold0, hb1, hb2, hb3, hbe, hoy, hsr⟩ := hp
  have HBL := Lib.hid (And.intro hb1 (And.intro hb2 (And.intro hb3 hbe)))
  have p2 := HBL.out.1.cell (j := 2) (u := .int .i64 a.who) rfl
  have p14 := HBL.out.1.cell (j := 14) (u := .int .i64 a.sta.unit) rfl
  have p15 := HBL.out.1.cell (j := 15) (u := .int .i64 a.sta.seq) rfl
  have p16 := HBL.out.1.cell (j := 16) (u := .int .i64 a.sta.state) rfl
  have p17 := HBL.out.1.cell (j := 17) (u := .int .i64 a.sta.node) rfl
  have p18 := HBL.out.1.cell (j := 18) (u := .int .i64 a.sta.epoch) rfl
  have p0 : X1.cell? ⟨w.heap.size, 0, none⟩ = some (.int .i64 9) := by rw [← hk]; exact HBL.out.1.cell (j := 0) rfl
  have q2 := HBL.out.2.2.1.cell (j := 2) rfl
  have f2 := HBL.out.2.2.1.free 2
  have q14 := HBL.out.2.2.1.cell (j := 14) rfl
  have f14 := HBL.out.2.2.1.free 14
  have q15 := HBL.out.2.2.1.cell (j := 15) rfl
  have f15 := HBL.out.2.2.1.free 15
  have q16 := HBL.out.2.2.1.cell (j := 16) rfl
  have f16 := HBL.out.2.2.1.free 16
  have q17 := HBL.out.2.2.1.cell (j := 17) rfl
  have f17 := HBL.out.2.2.1.free 17
  have q18 := HBL.out.2.2.1.cell (j := 18) rfl
  have f18 := HBL.out.2.2.1.free 18
  have hlt3 := HBL.out.2.2.1.lt
  have hlt1 := HBL.out.1.lt
  obtain ⟨D, hD⟩ : ∃ D, D = (evCs ({ EvM.zero 9 a.tick with who := a.who, sta := a.sta } : EvM)).toArray := ⟨_, rfl⟩
  have hszd : (Tryz.prog.info? 35).map (·.size) = some D.size := by rw [hD]; exact ev_size
  have holdd := (z28_size ({ EvM.zero 9 a.tick with who := a.who, sta := a.sta } : EvM)).trans (congrArg Array.size hD.symm)
  have honed : D.all (·.oneCell') = true := by rw [hD]; exact evCs_one _
  have HDV := Lib.hid (show evV ({ EvM.zero 9 a.tick with who := a.who, sta := a.sta } : EvM) = .agg D by rw [hD]; rfl)
  have HC0 : Hid (((((((X1.drew.setCell ⟨w.heap.size + 1 + 1, 2, none⟩ (.int .i64 a.who)).setCell ⟨w.heap.size + 1 + 1, 14, none⟩ (.int .i64 a.sta.unit)).setCell ⟨w.heap.size + 1 + 1, 15, none⟩ (.int .i64 a.sta.seq)).setCell ⟨w.heap.size + 1 + 1, 16, none⟩ (.int .i64 a.sta.state)).setCell ⟨w.heap.size + 1 + 1, 17, none⟩ (.int .i64 a.sta.node)).setCell ⟨w.heap.size + 1 + 1, 18, none⟩ (.int .i64 a.sta.epoch)).heap[w.heap.size + 1 + 1]? = some (.cells D 35 (0, 0))) := Lib.hid (by rw [hD]; exact ((((((HBL.out.2.2.1.set 2 (.int .i64 a.who)).set 14 (.int .i64 a.sta.unit)).set 15 (.int .i64 a.sta.seq)).set 16 (.int .i64 a.sta.state)).set 17 (.int .i64 a.sta.node)).set 18 (.int .i64 a.sta.epoch)))
  have HO0 := Lib.hid (show ((((((X1.drew.setCell ⟨w.heap.size + 1 + 1, 2, none⟩ (.int .i64 a.who)).setCell ⟨w.heap.size + 1 + 1, 14, none⟩ (.int .i64 a.sta.unit)).setCell ⟨w.heap.size + 1 + 1, 15, none⟩ (.int .i64 a.sta.seq)).setCell ⟨w.heap.size + 1 + 1, 16, none⟩ (.int .i64 a.sta.state)).setCell ⟨w.heap.size + 1 + 1, 17, none⟩ (.int .i64 a.sta.node)).setCell ⟨w.heap.size + 1 + 1, 18, none⟩ (.int .i64 a.sta.epoch)).heap[w.heap.size + 1]? = some (.cells _ _ _) from ((((((HBL.out.2.1.other (g := w.heap.size + 1 + 1) (by omega) 2 (.int .i64 a.who)).other (g := w.heap.size + 1 + 1) (by omega) 14 (.int .i64 a.sta.unit)).other (g := w.heap.size + 1 + 1) (by omega) 15 (.int .i64 a.sta.seq)).other (g := w.heap.size + 1 + 1) (by omega) 16 (.int .i64 a.sta.state)).other (g := w.heap.size + 1 + 1) (by omega) 17 (.int .i64 a.sta.node)).other (g := w.heap.size + 1 + 1) (by omega) 18 (.int .i64 a.sta.epoch)))
  have HE0 := Lib.hid ((((((((show Below w.heap.size w X1.drew from ⟨HBL.out.2.2.2.os, HBL.out.2.2.2.tape, HBL.out.2.2.2.output, HBL.out.2.2.2.size, HBL.out.2.2.2.block⟩).setCell (p := ⟨w.heap.size + 1 + 1, 2, none⟩) (by show w.heap.size ≤ w.heap.size + 1 + 1; omega) (.int .i64 a.who)).setCell (p := ⟨w.heap.size + 1 + 1, 14, none⟩) (by show w.heap.size ≤ w.heap.size + 1 + 1; omega) (.int .i64 a.sta.unit)).setCell (p := ⟨w.heap.size + 1 + 1, 15, none⟩) (by show w.heap.size ≤ w.heap.size + 1 + 1; omega) (.int .i64 a.sta.seq)).setCell (p := ⟨w.heap.size + 1 + 1, 16, none⟩) (by show w.heap.size ≤ w.heap.size + 1 + 1; omega) (.int .i64 a.sta.state)).setCell (p := ⟨w.heap.size + 1 + 1, 17, none⟩) (by show w.heap.size ≤ w.heap.size + 1 + 1; omega) (.int .i64 a.sta.node)).setCell (p := ⟨w.heap.size + 1 + 1, 18, none⟩) (by show w.heap.size ≤ w.heap.size + 1 + 1; omega) (.int .i64 a.sta.epoch)))
  clear hD
  have HMI := Lib.hid (And.intro (show (Tryz.prog.info? 29).map (·.size) = some 5 by kernel_rfl) (show (#[.int .i64 a.sta.unit, .int .i64 a.sta.seq, .int .i64 a.sta.state, .int .i64 a.sta.node, .int .i64 a.sta.epoch] : Array Value).all (·.oneCell') = true by simp [Value.oneCell']))
  have HPT := Lib.hid (show ∀ X : World, X.rangeAt w.heap.size 0 (evCs a) → X.rangeAt w.heap.size 14 [.int .i64 a.sta.unit, .int .i64 a.sta.seq, .int .i64 a.sta.state, .int .i64 a.sta.node, .int .i64 a.sta.epoch] from fun X h => range_part h (fun j v hj => by
    match j, hj with
    | 0, hj => exact hj
    | 1, hj => exact hj
    | 2, hj => exact hj
    | 3, hj => exact hj
    | 4, hj => exact hj
    | j + 5, hj => simp at hj))
  have HA := Lib.hid (And.intro hat (And.intro hl (And.intro hB hk)))
  have HH0 := Lib.hid (And.intro hbt (And.intro hsz0 (And.intro hone0 hold0)))
  have HH1 := Lib.hid (And.intro hoy hsr)
  have HH2 := Lib.hid (And.intro hszd (And.intro holdd honed))
  rw [hv]
  clear hv hb1 hb2 hb3 hbe hat hl hB hk hbt hsz0 hone0 hold0 hoy hsr hszd holdd honed
  go_enter Tryz.func69, Tryz.ntmps69
  go_wp2_with (first | ((with_reducible refine wpList_at 8 rfl ?_); refine wpList_build_v rfl 35 #[(0, .tmp 5), (1, .tmp 7)] rfl D0 [(0, .int .i64 9), (1, .int .i64 a.tick)] (by rw [Array.toList_map]; rfl) HH0.out.1 ?_) | ((with_reducible refine wpList_op (.store 35 (.tmp 3) (.tmp 8)) rfl ?_); refine wpList_store_row rfl 35 (.tmp 3) (.tmp 8) rfl (w.heap.size + 1 + 1) D0 rfl rfl 35 _ HH1.out.1 HH0.out.2.1 HH0.out.2.2.2 HH0.out.2.2.1 ?_; rw [HH1.out.2]))
  refine wp_region_held_drew (S := fun W' => W'.rangeAt w.heap.size 0 (evCs a)) (by kernel_rfl) (blk_range HBL.out.1) (fun hHeld => ?_)
  refine wpAnyH_take (i := 0) (v := .pointer (some ⟨w.heap.size, 2, none⟩)) rfl (by kernel_rfl) (by kernel_rfl) (by kernel_rfl) (fun _ _ _ h => h) (Or.inl ⟨by rfl, ?_⟩) (by assumption) ?_
  · intro w' hSw
    go_simp
  show wpAnyH _ _ _ _ _ _ _ (Act.put _ (some 70) _) _
  simp only [Act.put, List.setIfInBounds_toArray, List.set_cons_zero, List.set_cons_succ]
  refine wpAnyH_take (i := 1) (v := .int .i64 a.who) rfl (by kernel_rfl) (by kernel_rfl) (by kernel_rfl) (fun _ _ _ h => h) (Or.inl ⟨by rfl, ?_⟩) (by assumption) ?_
  · intro w' hSw
    have hc : w'.cell? ⟨w.heap.size, 2, none⟩ = some (.int .i64 a.who) := by have h := hSw 2 _ rfl; simpa using h
    go_simp
  show wpAnyH _ _ _ _ _ _ _ (Act.put _ (some 71) _) _
  simp only [Act.put, List.setIfInBounds_toArray, List.set_cons_zero, List.set_cons_succ]
  refine wpAnyH_take (i := 2) (v := .pointer (some ⟨w.heap.size, 14, none⟩)) rfl (by kernel_rfl) (by kernel_rfl) (by kernel_rfl) (fun _ _ _ h => h) (Or.inl ⟨by rfl, ?_⟩) (by assumption) ?_
  · intro w' hSw
    go_simp
  show wpAnyH _ _ _ _ _ _ _ (Act.put _ (some 72) _) _
  simp only [Act.put, List.setIfInBounds_toArray, List.set_cons_zero, List.set_cons_succ]
  refine wpAnyH_take (i := 3) (v := .agg #[.int .i64 a.sta.unit, .int .i64 a.sta.seq, .int .i64 a.sta.state, .int .i64 a.sta.node, .int .i64 a.sta.epoch]) rfl (by kernel_rfl) (by kernel_rfl) (by kernel_rfl) (fun _ _ _ h => h) (yieldsIf_load_mid (by rfl) 29 (.tmp 72) rfl w.heap.size 14 rfl [.int .i64 a.sta.unit, .int .i64 a.sta.seq, .int .i64 a.sta.state, .int .i64 a.sta.node, .int .i64 a.sta.epoch] _ (fun w' hSw => HPT.out w' hSw) Tryz.underlying29 rfl HMI.out.1) (by assumption) ?_
  show wpAnyH _ _ _ _ _ _ _ (Act.put _ (some 73) _) _
  simp only [Act.put, List.setIfInBounds_toArray, List.set_cons_zero, List.set_cons_succ]
  refine wpAnyH_take (i := 4) (v := .pointer (some ⟨w.heap.size + 1 + 1, 2, none⟩)) rfl (by kernel_rfl) (by kernel_rfl) (by kernel_rfl) (fun _ _ _ h => h) (Or.inl ⟨by rfl, ?_⟩) (by assumption) ?_
  · intro w' hSw
    go_simp
  show wpAnyH _ _ _ _ _ _ _ (Act.put _ (some 74) _) _
  simp only [Act.put, List.setIfInBounds_toArray, List.set_cons_zero, List.set_cons_succ]
  refine wpAnyH_ready (rs := [5]) (by kernel_rfl) (by simp) ?_
  refine AllReadyH.cons rfl (fun K hK => ?_) AllReadyH.nil
  have hz0 := Blk.cell (j := 2) HBL.out.2.2.1 rfl
  have hy0 := Blk.free HBL.out.2.2.1 2
  have hl0 := Blk.lt HBL.out.2.2.1
  go_simp
  refine hK.out _ _ (blk_range (HBL.out.1.other (g := w.heap.size + 1 + 1) (by omega) 2 (.int .i64 a.who))) (fun hHeld => ?_)
  clear hK K hz0 hy0 hl0
  refine wpAnyH_take (i := 6) (v := .pointer (some ⟨w.heap.size + 1 + 1, 14, none⟩)) rfl (by kernel_rfl) (by kernel_rfl) (by kernel_rfl) (fun _ _ _ h => h) (Or.inl ⟨by rfl, ?_⟩) (by assumption) ?_
  · intro w' hSw
    go_simp
  show wpAnyH _ _ _ _ _ _ _ (Act.put _ (some 75) _) _
  simp only [Act.put, List.setIfInBounds_toArray, List.set_cons_zero, List.set_cons_succ]
  refine wpAnyH_ready (rs := [7]) (by kernel_rfl) (by simp) ?_
  refine AllReadyH.cons rfl (fun K hK => ?_) AllReadyH.nil
  refine step_store_mid (by rfl) 29 (.tmp 75) (.tmp 73) rfl (w.heap.size + 1 + 1) 14 #[.int .i64 a.sta.unit, .int .i64 a.sta.seq, .int .i64 a.sta.state, .int .i64 a.sta.node, .int .i64 a.sta.epoch] rfl rfl (blk_there (HBL.out.2.2.1.set 2 (.int .i64 a.who)) (Nat.le_of_ble_eq_true rfl)) HMI.out.1 HMI.out.2 ((((((X1.drew.setCell ⟨w.heap.size + 1 + 1, 2, none⟩ (.int .i64 a.who)).setCell ⟨w.heap.size + 1 + 1, 14, none⟩ (.int .i64 a.sta.unit)).setCell ⟨w.heap.size + 1 + 1, 15, none⟩ (.int .i64 a.sta.seq)).setCell ⟨w.heap.size + 1 + 1, 16, none⟩ (.int .i64 a.sta.state)).setCell ⟨w.heap.size + 1 + 1, 17, none⟩ (.int .i64 a.sta.node)).setCell ⟨w.heap.size + 1 + 1, 18, none⟩ (.int .i64 a.sta.epoch)) rfl ?_
  refine hK.out _ _ (blk_range ((((((HBL.out.1.other (g := w.heap.size + 1 + 1) (by omega) 2 (.int .i64 a.who)).other (g := w.heap.size + 1 + 1) (by omega) 14 (.int .i64 a.sta.unit)).other (g := w.heap.size + 1 + 1) (by omega) 15 (.int .i64 a.sta.seq)).other (g := w.heap.size + 1 + 1) (by omega) 16 (.int .i64 a.sta.state)).other (g := w.heap.size + 1 + 1) (by omega) 17 (.int .i64 a.sta.node)).other (g := w.heap.size + 1 + 1) (by omega) 18 (.int .i64 a.sta.epoch))) (fun hHeld => ?_)
  clear hK K
  refine wpAnyH_done (by kernel_rfl) ?_ _
  all_goals (go_wp2_with (first | ((with_reducible refine wpList_at 101 rfl ?_); refine wpList_load_row_g (by rfl) 35 (.tmp 3) rfl (w.heap.size + 1 + 1) rfl 35 D (0, 0) _ HC0.out Tryz.underlying35 rfl HH2.out.1 ?_) | ((with_reducible refine wpList_op (.store 35 (.tmp 2) (.tmp 101)) rfl ?_); refine wpList_store_row rfl 35 (.tmp 2) (.tmp 101) rfl (w.heap.size + 1) D rfl rfl 35 _ HO0.out HH2.out.1 HH2.out.2.1 HH2.out.2.2 ?_)))
  all_goals (refine bodyPost_ret (results_cell1 Tryz.results69 _ _ (w.heap.size + 1) 35 D (0, 0) _ (by rfl) (setRow_heap _ _ _ _ _ _ HO0.out) Tryz.underlying35 rfl HH2.out.1) rfl ?_)
  all_goals (have HEX := HE0.out)
  all_goals (refine ⟨({ EvM.zero 9 a.tick with who := a.who, sta := a.sta } : EvM), by rw [HDV.out], ?_, ⟨Sl.empty, ⟨SrcsAt.empty, Sl.empty⟩, Sl.empty⟩, ⟨Nat.zero_le _, (fun s hs => by cases hs), Nat.zero_le _⟩, below_setR HEX (by omega) D⟩)
  all_goals (
    unfold onlyE
    rw [show a.con.kind = 9 from HA.out.2.2.2]
    rfl
  )
set_option maxRecDepth 100000 in
set_option maxHeartbeats 8000000 in
theorem onlyEv_10 (a : EvM) (w : World) (B : Nat) (hat : EvAt w B a) (hB : B ≤ w.heap.size) (hl : ActL a.act) (hk : a.kind = 10) : Calls Tryz.prog 69 #[evV a] w (RetOE a B w) := by
  obtain ⟨C, D0, X1, hp⟩ := only_pre a w 10 hk
  obtain ⟨hv, c0, c1, hbt, hsz0, hone0, hold0, hb1, hb2, hb3, hbe, hoy, hsr⟩ := hp
  have HBL := Lib.hid (And.intro hb1 (And.intro hb2 (And.intro hb3 hbe)))
  have p2 := HBL.out.1.cell (j := 2) (u := .int .i64 a.who) rfl
  have p0 : X1.cell? ⟨w.heap.size, 0, none⟩ = some (.int .i64 10) := by rw [← hk]; exact HBL.out.1.cell (j := 0) rfl
  have q2 := HBL.out.2.2.1.cell (j := 2) rfl
  have f2 := HBL.out.2.2.1.free 2
  have hlt3 := HBL.out.2.2.1.lt
  have hlt1 := HBL.out.1.lt
  obtain ⟨D, hD⟩ : ∃ D, D = (evCs ({ EvM.zero 10 a.tick with who := a.who } : EvM)).toArray := ⟨_, rfl⟩
  have hszd : (Tryz.prog.info? 35).map (·.size) = some D.size := by rw [hD]; exact ev_size
  have holdd := (z28_size ({ EvM.zero 10 a.tick with who := a.who } : EvM)).trans (congrArg Array.size hD.symm)
  have honed : D.all (·.oneCell') = true := by rw [hD]; exact evCs_one _
  have HDV := Lib.hid (show evV ({ EvM.zero 10 a.tick with who := a.who } : EvM) = .agg D by rw [hD]; rfl)
  have HC0 : Hid ((X1.setCell ⟨w.heap.size + 1 + 1, 2, none⟩ (.int .i64 a.who)).heap[w.heap.size + 1 + 1]? = some (.cells D 35 (0, 0))) := Lib.hid (by rw [hD]; exact (HBL.out.2.2.1.set 2 (.int .i64 a.who)))
  have HO0 := Lib.hid (show (X1.setCell ⟨w.heap.size + 1 + 1, 2, none⟩ (.int .i64 a.who)).heap[w.heap.size + 1]? = some (.cells _ _ _) from (HBL.out.2.1.other (g := w.heap.size + 1 + 1) (by omega) 2 (.int .i64 a.who)))
  have HE0 := Lib.hid ((HBL.out.2.2.2.setCell (p := ⟨w.heap.size + 1 + 1, 2, none⟩) (by show w.heap.size ≤ w.heap.size + 1 + 1; omega) (.int .i64 a.who)))
  clear hD
  have HA := Lib.hid (And.intro hat (And.intro hl (And.intro hB hk)))
  have HH0 := Lib.hid (And.intro hbt (And.intro hsz0 (And.intro hone0 hold0)))
  have HH1 := Lib.hid (And.intro hoy hsr)
  have HH2 := Lib.hid (And.intro hszd (And.intro holdd honed))
  rw [hv]
  clear hv hb1 hb2 hb3 hbe hat hl hB hk hbt hsz0 hone0 hold0 hoy hsr hszd holdd honed
  go_enter Tryz.func69, Tryz.ntmps69
  go_wp2_with (first | ((with_reducible refine wpList_at 8 rfl ?_); refine wpList_build_v rfl 35 #[(0, .tmp 5), (1, .tmp 7)] rfl D0 [(0, .int .i64 10), (1, .int .i64 a.tick)] (by rw [Array.toList_map]; rfl) HH0.out.1 ?_) | ((with_reducible refine wpList_op (.store 35 (.tmp 3) (.tmp 8)) rfl ?_); refine wpList_store_row rfl 35 (.tmp 3) (.tmp 8) rfl (w.heap.size + 1 + 1) D0 rfl rfl 35 _ HH1.out.1 HH0.out.2.1 HH0.out.2.2.2 HH0.out.2.2.1 ?_; rw [HH1.out.2]) | ((with_reducible refine wpList_at 101 rfl ?_); refine wpList_load_row_g (by rfl) 35 (.tmp 3) rfl (w.heap.size + 1 + 1) rfl 35 D (0, 0) _ HC0.out Tryz.underlying35 rfl HH2.out.1 ?_) | ((with_reducible refine wpList_op (.store 35 (.tmp 2) (.tmp 101)) rfl ?_); refine wpList_store_row rfl 35 (.tmp 2) (.tmp 101) rfl (w.heap.size + 1) D rfl rfl 35 _ HO0.out HH2.out.1 HH2.out.2.1 HH2.out.2.2 ?_))
  all_goals (refine bodyPost_ret (results_cell1 Tryz.results69 _ _ (w.heap.size + 1) 35 D (0, 0) _ (by rfl) (setRow_heap _ _ _ _ _ _ HO0.out) Tryz.underlying35 rfl HH2.out.1) rfl ?_)
  all_goals (have HEX := HE0.out)
  all_goals (refine ⟨({ EvM.zero 10 a.tick with who := a.who } : EvM), by rw [HDV.out], ?_, ⟨Sl.empty, ⟨SrcsAt.empty, Sl.empty⟩, Sl.empty⟩, ⟨Nat.zero_le _, (fun s hs => by cases hs), Nat.zero_le _⟩, below_setR HEX (by omega) D⟩)
  all_goals (
    unfold onlyE
    rw [show a.con.kind = 10 from HA.out.2.2.2]
    rfl
  )
set_option maxRecDepth 100000 in
set_option maxHeartbeats 8000000 in
theorem onlyEv_11 (a : EvM) (w : World) (B : Nat) (hat : EvAt w B a) (hB : B ≤ w.heap.size) (hl : ActL a.act) (hk : a.kind = 11) : Calls Tryz.prog 69 #[evV a] w (RetOE a B w) := by
  obtain ⟨C, D0, X1, hp⟩ := only_pre a w 11 hk
  obtain ⟨hv, c0, c1, hbt, hsz0, hone0, hold0, hb1, hb2, hb3, hbe, hoy, hsr⟩ := hp
  have HBL := Lib.hid (And.intro hb1 (And.intro hb2 (And.intro hb3 hbe)))
  have p2 := HBL.out.1.cell (j := 2) (u := .int .i64 a.who) rfl
  have p0 : X1.cell? ⟨w.heap.size, 0, none⟩ = some (.int .i64 11) := by rw [← hk]; exact HBL.out.1.cell (j := 0) rfl
  have q2 := HBL.out.2.2.1.cell (j := 2) rfl
  have f2 := HBL.out.2.2.1.free 2
  have hlt3 := HBL.out.2.2.1.lt
  have hlt1 := HBL.out.1.lt
  obtain ⟨D, hD⟩ : ∃ D, D = (evCs ({ EvM.zero 11 a.tick with who := a.who } : EvM)).toArray := ⟨_, rfl⟩
  have hszd : (Tryz.prog.info? 35).map (·.size) = some D.size := by rw [hD]; exact ev_size
  have holdd := (z28_size ({ EvM.zero 11 a.tick with who := a.who } : EvM)).trans (congrArg Array.size hD.symm)
  have honed : D.all (·.oneCell') = true := by rw [hD]; exact evCs_one _
  have HDV := Lib.hid (show evV ({ EvM.zero 11 a.tick with who := a.who } : EvM) = .agg D by rw [hD]; rfl)
  have HC0 : Hid ((X1.setCell ⟨w.heap.size + 1 + 1, 2, none⟩ (.int .i64 a.who)).heap[w.heap.size + 1 + 1]? = some (.cells D 35 (0, 0))) := Lib.hid (by rw [hD]; exact (HBL.out.2.2.1.set 2 (.int .i64 a.who)))
  have HO0 := Lib.hid (show (X1.setCell ⟨w.heap.size + 1 + 1, 2, none⟩ (.int .i64 a.who)).heap[w.heap.size + 1]? = some (.cells _ _ _) from (HBL.out.2.1.other (g := w.heap.size + 1 + 1) (by omega) 2 (.int .i64 a.who)))
  have HE0 := Lib.hid ((HBL.out.2.2.2.setCell (p := ⟨w.heap.size + 1 + 1, 2, none⟩) (by show w.heap.size ≤ w.heap.size + 1 + 1; omega) (.int .i64 a.who)))
  clear hD
  have HA := Lib.hid (And.intro hat (And.intro hl (And.intro hB hk)))
  have HH0 := Lib.hid (And.intro hbt (And.intro hsz0 (And.intro hone0 hold0)))
  have HH1 := Lib.hid (And.intro hoy hsr)
  have HH2 := Lib.hid (And.intro hszd (And.intro holdd honed))
  rw [hv]
  clear hv hb1 hb2 hb3 hbe hat hl hB hk hbt hsz0 hone0 hold0 hoy hsr hszd holdd honed
  go_enter Tryz.func69, Tryz.ntmps69
  go_wp2_with (first | ((with_reducible refine wpList_at 8 rfl ?_); refine wpList_build_v rfl 35 #[(0, .tmp 5), (1, .tmp 7)] rfl D0 [(0, .int .i64 11), (1, .int .i64 a.tick)] (by rw [Array.toList_map]; rfl) HH0.out.1 ?_) | ((with_reducible refine wpList_op (.store 35 (.tmp 3) (.tmp 8)) rfl ?_); refine wpList_store_row rfl 35 (.tmp 3) (.tmp 8) rfl (w.heap.size + 1 + 1) D0 rfl rfl 35 _ HH1.out.1 HH0.out.2.1 HH0.out.2.2.2 HH0.out.2.2.1 ?_; rw [HH1.out.2]) | ((with_reducible refine wpList_at 101 rfl ?_); refine wpList_load_row_g (by rfl) 35 (.tmp 3) rfl (w.heap.size + 1 + 1) rfl 35 D (0, 0) _ HC0.out Tryz.underlying35 rfl HH2.out.1 ?_) | ((with_reducible refine wpList_op (.store 35 (.tmp 2) (.tmp 101)) rfl ?_); refine wpList_store_row rfl 35 (.tmp 2) (.tmp 101) rfl (w.heap.size + 1) D rfl rfl 35 _ HO0.out HH2.out.1 HH2.out.2.1 HH2.out.2.2 ?_))
  all_goals (refine bodyPost_ret (results_cell1 Tryz.results69 _ _ (w.heap.size + 1) 35 D (0, 0) _ (by rfl) (setRow_heap _ _ _ _ _ _ HO0.out) Tryz.underlying35 rfl HH2.out.1) rfl ?_)
  all_goals (have HEX := HE0.out)
  all_goals (refine ⟨({ EvM.zero 11 a.tick with who := a.who } : EvM), by rw [HDV.out], ?_, ⟨Sl.empty, ⟨SrcsAt.empty, Sl.empty⟩, Sl.empty⟩, ⟨Nat.zero_le _, (fun s hs => by cases hs), Nat.zero_le _⟩, below_setR HEX (by omega) D⟩)
  all_goals (
    unfold onlyE
    rw [show a.con.kind = 11 from HA.out.2.2.2]
    rfl
  )
set_option maxRecDepth 100000 in
set_option maxHeartbeats 8000000 in
theorem onlyEv_12 (a : EvM) (w : World) (B : Nat) (hat : EvAt w B a) (hB : B ≤ w.heap.size) (hl : ActL a.act) (hk : a.kind = 12) : Calls Tryz.prog 69 #[evV a] w (RetOE a B w) := by
  obtain ⟨C, D0, X1, hp⟩ := only_pre a w 12 hk
  obtain ⟨hv, c0, c1, hbt, hsz0, hone0, hold0, hb1, hb2, hb3, hbe, hoy, hsr⟩ := hp
  have HBL := Lib.hid (And.intro hb1 (And.intro hb2 (And.intro hb3 hbe)))
  have p2 := HBL.out.1.cell (j := 2) (u := .int .i64 a.who) rfl
  have p5 := HBL.out.1.cell (j := 5) (u := .int .i64 a.n) rfl
  have p4 := HBL.out.1.cell (j := 4) (u := .int .i64 a.epoch) rfl
  have p0 : X1.cell? ⟨w.heap.size, 0, none⟩ = some (.int .i64 12) := by rw [← hk]; exact HBL.out.1.cell (j := 0) rfl
  have q2 := HBL.out.2.2.1.cell (j := 2) rfl
  have f2 := HBL.out.2.2.1.free 2
  have q5 := HBL.out.2.2.1.cell (j := 5) rfl
  have f5 := HBL.out.2.2.1.free 5
  have q4 := HBL.out.2.2.1.cell (j := 4) rfl
  have f4 := HBL.out.2.2.1.free 4
  have hlt3 := HBL.out.2.2.1.lt
  have hlt1 := HBL.out.1.lt
  obtain ⟨D, hD⟩ : ∃ D, D = (evCs ({ EvM.zero 12 a.tick with who := a.who, n := a.n, epoch := a.epoch } : EvM)).toArray := ⟨_, rfl⟩
  have hszd : (Tryz.prog.info? 35).map (·.size) = some D.size := by rw [hD]; exact ev_size
  have holdd := (z28_size ({ EvM.zero 12 a.tick with who := a.who, n := a.n, epoch := a.epoch } : EvM)).trans (congrArg Array.size hD.symm)
  have honed : D.all (·.oneCell') = true := by rw [hD]; exact evCs_one _
  have HDV := Lib.hid (show evV ({ EvM.zero 12 a.tick with who := a.who, n := a.n, epoch := a.epoch } : EvM) = .agg D by rw [hD]; rfl)
  have HC0 : Hid ((((X1.setCell ⟨w.heap.size + 1 + 1, 2, none⟩ (.int .i64 a.who)).setCell ⟨w.heap.size + 1 + 1, 5, none⟩ (.int .i64 a.n)).setCell ⟨w.heap.size + 1 + 1, 4, none⟩ (.int .i64 a.epoch)).drew.heap[w.heap.size + 1 + 1]? = some (.cells D 35 (0, 0))) := Lib.hid (by rw [hD]; exact (((HBL.out.2.2.1.set 2 (.int .i64 a.who)).set 5 (.int .i64 a.n)).set 4 (.int .i64 a.epoch)))
  have HO0 := Lib.hid (show (((X1.setCell ⟨w.heap.size + 1 + 1, 2, none⟩ (.int .i64 a.who)).setCell ⟨w.heap.size + 1 + 1, 5, none⟩ (.int .i64 a.n)).setCell ⟨w.heap.size + 1 + 1, 4, none⟩ (.int .i64 a.epoch)).drew.heap[w.heap.size + 1]? = some (.cells _ _ _) from (((HBL.out.2.1.other (g := w.heap.size + 1 + 1) (by omega) 2 (.int .i64 a.who)).other (g := w.heap.size + 1 + 1) (by omega) 5 (.int .i64 a.n)).other (g := w.heap.size + 1 + 1) (by omega) 4 (.int .i64 a.epoch)))
  have HE0 := Lib.hid ((show Below w.heap.size w (((X1.setCell ⟨w.heap.size + 1 + 1, 2, none⟩ (.int .i64 a.who)).setCell ⟨w.heap.size + 1 + 1, 5, none⟩ (.int .i64 a.n)).setCell ⟨w.heap.size + 1 + 1, 4, none⟩ (.int .i64 a.epoch)).drew from ⟨(((HBL.out.2.2.2.setCell (p := ⟨w.heap.size + 1 + 1, 2, none⟩) (by show w.heap.size ≤ w.heap.size + 1 + 1; omega) (.int .i64 a.who)).setCell (p := ⟨w.heap.size + 1 + 1, 5, none⟩) (by show w.heap.size ≤ w.heap.size + 1 + 1; omega) (.int .i64 a.n)).setCell (p := ⟨w.heap.size + 1 + 1, 4, none⟩) (by show w.heap.size ≤ w.heap.size + 1 + 1; omega) (.int .i64 a.epoch)).os, (((HBL.out.2.2.2.setCell (p := ⟨w.heap.size + 1 + 1, 2, none⟩) (by show w.heap.size ≤ w.heap.size + 1 + 1; omega) (.int .i64 a.who)).setCell (p := ⟨w.heap.size + 1 + 1, 5, none⟩) (by show w.heap.size ≤ w.heap.size + 1 + 1; omega) (.int .i64 a.n)).setCell (p := ⟨w.heap.size + 1 + 1, 4, none⟩) (by show w.heap.size ≤ w.heap.size + 1 + 1; omega) (.int .i64 a.epoch)).tape, (((HBL.out.2.2.2.setCell (p := ⟨w.heap.size + 1 + 1, 2, none⟩) (by show w.heap.size ≤ w.heap.size + 1 + 1; omega) (.int .i64 a.who)).setCell (p := ⟨w.heap.size + 1 + 1, 5, none⟩) (by show w.heap.size ≤ w.heap.size + 1 + 1; omega) (.int .i64 a.n)).setCell (p := ⟨w.heap.size + 1 + 1, 4, none⟩) (by show w.heap.size ≤ w.heap.size + 1 + 1; omega) (.int .i64 a.epoch)).output, (((HBL.out.2.2.2.setCell (p := ⟨w.heap.size + 1 + 1, 2, none⟩) (by show w.heap.size ≤ w.heap.size + 1 + 1; omega) (.int .i64 a.who)).setCell (p := ⟨w.heap.size + 1 + 1, 5, none⟩) (by show w.heap.size ≤ w.heap.size + 1 + 1; omega) (.int .i64 a.n)).setCell (p := ⟨w.heap.size + 1 + 1, 4, none⟩) (by show w.heap.size ≤ w.heap.size + 1 + 1; omega) (.int .i64 a.epoch)).size, (((HBL.out.2.2.2.setCell (p := ⟨w.heap.size + 1 + 1, 2, none⟩) (by show w.heap.size ≤ w.heap.size + 1 + 1; omega) (.int .i64 a.who)).setCell (p := ⟨w.heap.size + 1 + 1, 5, none⟩) (by show w.heap.size ≤ w.heap.size + 1 + 1; omega) (.int .i64 a.n)).setCell (p := ⟨w.heap.size + 1 + 1, 4, none⟩) (by show w.heap.size ≤ w.heap.size + 1 + 1; omega) (.int .i64 a.epoch)).block⟩))
  clear hD
  have HA := Lib.hid (And.intro hat (And.intro hl (And.intro hB hk)))
  have HH0 := Lib.hid (And.intro hbt (And.intro hsz0 (And.intro hone0 hold0)))
  have HH1 := Lib.hid (And.intro hoy hsr)
  have HH2 := Lib.hid (And.intro hszd (And.intro holdd honed))
  rw [hv]
  clear hv hb1 hb2 hb3 hbe hat hl hB hk hbt hsz0 hone0 hold0 hoy hsr hszd holdd honed
  go_enter Tryz.func69, Tryz.ntmps69
  go_wp2_with (first | ((with_reducible refine wpList_at 8 rfl ?_); refine wpList_build_v rfl 35 #[(0, .tmp 5), (1, .tmp 7)] rfl D0 [(0, .int .i64 12), (1, .int .i64 a.tick)] (by rw [Array.toList_map]; rfl) HH0.out.1 ?_) | ((with_reducible refine wpList_op (.store 35 (.tmp 3) (.tmp 8)) rfl ?_); refine wpList_store_row rfl 35 (.tmp 3) (.tmp 8) rfl (w.heap.size + 1 + 1) D0 rfl rfl 35 _ HH1.out.1 HH0.out.2.1 HH0.out.2.2.2 HH0.out.2.2.1 ?_; rw [HH1.out.2]))
  go_region
  all_goals (go_wp2_with (first | ((with_reducible refine wpList_at 101 rfl ?_); refine wpList_load_row_g (by rfl) 35 (.tmp 3) rfl (w.heap.size + 1 + 1) rfl 35 D (0, 0) _ HC0.out Tryz.underlying35 rfl HH2.out.1 ?_) | ((with_reducible refine wpList_op (.store 35 (.tmp 2) (.tmp 101)) rfl ?_); refine wpList_store_row rfl 35 (.tmp 2) (.tmp 101) rfl (w.heap.size + 1) D rfl rfl 35 _ HO0.out HH2.out.1 HH2.out.2.1 HH2.out.2.2 ?_)))
  all_goals (refine bodyPost_ret (results_cell1 Tryz.results69 _ _ (w.heap.size + 1) 35 D (0, 0) _ (by rfl) (setRow_heap _ _ _ _ _ _ HO0.out) Tryz.underlying35 rfl HH2.out.1) rfl ?_)
  all_goals (have HEX := HE0.out)
  all_goals (refine ⟨({ EvM.zero 12 a.tick with who := a.who, n := a.n, epoch := a.epoch } : EvM), by rw [HDV.out], ?_, ⟨Sl.empty, ⟨SrcsAt.empty, Sl.empty⟩, Sl.empty⟩, ⟨Nat.zero_le _, (fun s hs => by cases hs), Nat.zero_le _⟩, below_setR HEX (by omega) D⟩)
  all_goals (
    unfold onlyE
    rw [show a.con.kind = 12 from HA.out.2.2.2]
    rfl
  )
set_option maxRecDepth 100000 in
set_option maxHeartbeats 8000000 in
theorem onlyEv_13 (a : EvM) (w : World) (B : Nat) (hat : EvAt w B a) (hB : B ≤ w.heap.size) (hl : ActL a.act) (hk : a.kind = 13) : Calls Tryz.prog 69 #[evV a] w (RetOE a B w) := by
  obtain ⟨C, D0, X1, hp⟩ := only_pre a w 13 hk
  obtain ⟨hv, c0, c1, hbt, hsz0, hone0, hold0, hb1, hb2, hb3, hbe, hoy, hsr⟩ := hp
  have HBL := Lib.hid (And.intro hb1 (And.intro hb2 (And.intro hb3 hbe)))
  have p2 := HBL.out.1.cell (j := 2) (u := .int .i64 a.who) rfl
  have p5 := HBL.out.1.cell (j := 5) (u := .int .i64 a.n) rfl
  have p0 : X1.cell? ⟨w.heap.size, 0, none⟩ = some (.int .i64 13) := by rw [← hk]; exact HBL.out.1.cell (j := 0) rfl
  have q2 := HBL.out.2.2.1.cell (j := 2) rfl
  have f2 := HBL.out.2.2.1.free 2
  have q5 := HBL.out.2.2.1.cell (j := 5) rfl
  have f5 := HBL.out.2.2.1.free 5
  have hlt3 := HBL.out.2.2.1.lt
  have hlt1 := HBL.out.1.lt
  obtain ⟨D, hD⟩ : ∃ D, D = (evCs ({ EvM.zero 13 a.tick with who := a.who, n := a.n } : EvM)).toArray := ⟨_, rfl⟩
  have hszd : (Tryz.prog.info? 35).map (·.size) = some D.size := by rw [hD]; exact ev_size
  have holdd := (z28_size ({ EvM.zero 13 a.tick with who := a.who, n := a.n } : EvM)).trans (congrArg Array.size hD.symm)
  have honed : D.all (·.oneCell') = true := by rw [hD]; exact evCs_one _
  have HDV := Lib.hid (show evV ({ EvM.zero 13 a.tick with who := a.who, n := a.n } : EvM) = .agg D by rw [hD]; rfl)
  have HC0 : Hid (((X1.setCell ⟨w.heap.size + 1 + 1, 2, none⟩ (.int .i64 a.who)).setCell ⟨w.heap.size + 1 + 1, 5, none⟩ (.int .i64 a.n)).drew.heap[w.heap.size + 1 + 1]? = some (.cells D 35 (0, 0))) := Lib.hid (by rw [hD]; exact ((HBL.out.2.2.1.set 2 (.int .i64 a.who)).set 5 (.int .i64 a.n)))
  have HO0 := Lib.hid (show ((X1.setCell ⟨w.heap.size + 1 + 1, 2, none⟩ (.int .i64 a.who)).setCell ⟨w.heap.size + 1 + 1, 5, none⟩ (.int .i64 a.n)).drew.heap[w.heap.size + 1]? = some (.cells _ _ _) from ((HBL.out.2.1.other (g := w.heap.size + 1 + 1) (by omega) 2 (.int .i64 a.who)).other (g := w.heap.size + 1 + 1) (by omega) 5 (.int .i64 a.n)))
  have HE0 := Lib.hid ((show Below w.heap.size w ((X1.setCell ⟨w.heap.size + 1 + 1, 2, none⟩ (.int .i64 a.who)).setCell ⟨w.heap.size + 1 + 1, 5, none⟩ (.int .i64 a.n)).drew from ⟨((HBL.out.2.2.2.setCell (p := ⟨w.heap.size + 1 + 1, 2, none⟩) (by show w.heap.size ≤ w.heap.size + 1 + 1; omega) (.int .i64 a.who)).setCell (p := ⟨w.heap.size + 1 + 1, 5, none⟩) (by show w.heap.size ≤ w.heap.size + 1 + 1; omega) (.int .i64 a.n)).os, ((HBL.out.2.2.2.setCell (p := ⟨w.heap.size + 1 + 1, 2, none⟩) (by show w.heap.size ≤ w.heap.size + 1 + 1; omega) (.int .i64 a.who)).setCell (p := ⟨w.heap.size + 1 + 1, 5, none⟩) (by show w.heap.size ≤ w.heap.size + 1 + 1; omega) (.int .i64 a.n)).tape, ((HBL.out.2.2.2.setCell (p := ⟨w.heap.size + 1 + 1, 2, none⟩) (by show w.heap.size ≤ w.heap.size + 1 + 1; omega) (.int .i64 a.who)).setCell (p := ⟨w.heap.size + 1 + 1, 5, none⟩) (by show w.heap.size ≤ w.heap.size + 1 + 1; omega) (.int .i64 a.n)).output, ((HBL.out.2.2.2.setCell (p := ⟨w.heap.size + 1 + 1, 2, none⟩) (by show w.heap.size ≤ w.heap.size + 1 + 1; omega) (.int .i64 a.who)).setCell (p := ⟨w.heap.size + 1 + 1, 5, none⟩) (by show w.heap.size ≤ w.heap.size + 1 + 1; omega) (.int .i64 a.n)).size, ((HBL.out.2.2.2.setCell (p := ⟨w.heap.size + 1 + 1, 2, none⟩) (by show w.heap.size ≤ w.heap.size + 1 + 1; omega) (.int .i64 a.who)).setCell (p := ⟨w.heap.size + 1 + 1, 5, none⟩) (by show w.heap.size ≤ w.heap.size + 1 + 1; omega) (.int .i64 a.n)).block⟩))
  clear hD
  have HA := Lib.hid (And.intro hat (And.intro hl (And.intro hB hk)))
  have HH0 := Lib.hid (And.intro hbt (And.intro hsz0 (And.intro hone0 hold0)))
  have HH1 := Lib.hid (And.intro hoy hsr)
  have HH2 := Lib.hid (And.intro hszd (And.intro holdd honed))
  rw [hv]
  clear hv hb1 hb2 hb3 hbe hat hl hB hk hbt hsz0 hone0 hold0 hoy hsr hszd holdd honed
  go_enter Tryz.func69, Tryz.ntmps69
  go_wp2_with (first | ((with_reducible refine wpList_at 8 rfl ?_); refine wpList_build_v rfl 35 #[(0, .tmp 5), (1, .tmp 7)] rfl D0 [(0, .int .i64 13), (1, .int .i64 a.tick)] (by rw [Array.toList_map]; rfl) HH0.out.1 ?_) | ((with_reducible refine wpList_op (.store 35 (.tmp 3) (.tmp 8)) rfl ?_); refine wpList_store_row rfl 35 (.tmp 3) (.tmp 8) rfl (w.heap.size + 1 + 1) D0 rfl rfl 35 _ HH1.out.1 HH0.out.2.1 HH0.out.2.2.2 HH0.out.2.2.1 ?_; rw [HH1.out.2]))
  go_region
  all_goals (go_wp2_with (first | ((with_reducible refine wpList_at 101 rfl ?_); refine wpList_load_row_g (by rfl) 35 (.tmp 3) rfl (w.heap.size + 1 + 1) rfl 35 D (0, 0) _ HC0.out Tryz.underlying35 rfl HH2.out.1 ?_) | ((with_reducible refine wpList_op (.store 35 (.tmp 2) (.tmp 101)) rfl ?_); refine wpList_store_row rfl 35 (.tmp 2) (.tmp 101) rfl (w.heap.size + 1) D rfl rfl 35 _ HO0.out HH2.out.1 HH2.out.2.1 HH2.out.2.2 ?_)))
  all_goals (refine bodyPost_ret (results_cell1 Tryz.results69 _ _ (w.heap.size + 1) 35 D (0, 0) _ (by rfl) (setRow_heap _ _ _ _ _ _ HO0.out) Tryz.underlying35 rfl HH2.out.1) rfl ?_)
  all_goals (have HEX := HE0.out)
  all_goals (refine ⟨({ EvM.zero 13 a.tick with who := a.who, n := a.n } : EvM), by rw [HDV.out], ?_, ⟨Sl.empty, ⟨SrcsAt.empty, Sl.empty⟩, Sl.empty⟩, ⟨Nat.zero_le _, (fun s hs => by cases hs), Nat.zero_le _⟩, below_setR HEX (by omega) D⟩)
  all_goals (
    unfold onlyE
    rw [show a.con.kind = 13 from HA.out.2.2.2]
    rfl
  )
set_option maxRecDepth 100000 in
set_option maxHeartbeats 8000000 in
theorem onlyEv_rest (a : EvM) (w : World) (B : Nat) (hat : EvAt w B a) (hB : B ≤ w.heap.size) (hl : ActL a.act) (hk : a.kind ≠ 1 ∧ a.kind ≠ 2 ∧ a.kind ≠ 3 ∧ a.kind ≠ 4 ∧ a.kind ≠ 5 ∧ a.kind ≠ 6 ∧ a.kind ≠ 7 ∧ a.kind ≠ 8 ∧ a.kind ≠ 9 ∧ a.kind ≠ 10 ∧ a.kind ≠ 11 ∧ a.kind ≠ 12 ∧ a.kind ≠ 13) : Calls Tryz.prog 69 #[evV a] w (RetOE a B w) := by
  have HKR := Lib.hid hk
  obtain ⟨kk, hkk⟩ : ∃ kk, kk = a.kind := ⟨_, rfl⟩
  obtain ⟨C, D0, X1, hp⟩ := only_pre a w kk hkk.symm
  obtain ⟨hv, c0, c1, hbt, hsz0, hone0, hold0, hb1, hb2, hb3, hbe, hoy, hsr⟩ := hp
  have HBL := Lib.hid (And.intro hb1 (And.intro hb2 (And.intro hb3 hbe)))
  have p0 : X1.cell? ⟨w.heap.size, 0, none⟩ = some (.int .i64 kk) := by rw [hkk]; exact HBL.out.1.cell (j := 0) rfl
  have hlt3 := HBL.out.2.2.1.lt
  have hlt1 := HBL.out.1.lt
  obtain ⟨D, hD⟩ : ∃ D, D = (evCs (EvM.zero kk a.tick)).toArray := ⟨_, rfl⟩
  have hszd : (Tryz.prog.info? 35).map (·.size) = some D.size := by rw [hD]; exact ev_size
  have holdd := (z28_size (EvM.zero kk a.tick)).trans (congrArg Array.size hD.symm)
  have honed : D.all (·.oneCell') = true := by rw [hD]; exact evCs_one _
  have HDV := Lib.hid (show evV (EvM.zero kk a.tick) = .agg D by rw [hD]; rfl)
  have HC0 : Hid (X1.heap[w.heap.size + 1 + 1]? = some (.cells D 35 (0, 0))) := Lib.hid (by rw [hD]; exact HBL.out.2.2.1)
  have HO0 := Lib.hid (show X1.heap[w.heap.size + 1]? = some (.cells _ _ _) from HBL.out.2.1)
  have HE0 := Lib.hid (HBL.out.2.2.2)
  clear hD
  have HKK := Lib.hid hkk
  obtain ⟨g1, g2, g3, g4, g5, g6, g7, g8, g9, g10, g11, g12, g13⟩ := hk
  have e1 : (kk == 1) = false := by rw [hkk]; simpa using g1
  have e2 : (kk == 2) = false := by rw [hkk]; simpa using g2
  have e3 : (kk == 3) = false := by rw [hkk]; simpa using g3
  have e4 : (kk == 4) = false := by rw [hkk]; simpa using g4
  have e5 : (kk == 5) = false := by rw [hkk]; simpa using g5
  have e6 : (kk == 6) = false := by rw [hkk]; simpa using g6
  have e7 : (kk == 7) = false := by rw [hkk]; simpa using g7
  have e8 : (kk == 8) = false := by rw [hkk]; simpa using g8
  have e9 : (kk == 9) = false := by rw [hkk]; simpa using g9
  have e10 : (kk == 10) = false := by rw [hkk]; simpa using g10
  have e11 : (kk == 11) = false := by rw [hkk]; simpa using g11
  have e12 : (kk == 12) = false := by rw [hkk]; simpa using g12
  have e13 : (kk == 13) = false := by rw [hkk]; simpa using g13
  have hk := HKR.out
  clear g1 g2 g3 g4 g5 g6 g7 g8 g9 g10 g11 g12 g13
  have HA := Lib.hid (And.intro hat (And.intro hl (And.intro hB hk)))
  have HH0 := Lib.hid (And.intro hbt (And.intro hsz0 (And.intro hone0 hold0)))
  have HH1 := Lib.hid (And.intro hoy hsr)
  have HH2 := Lib.hid (And.intro hszd (And.intro holdd honed))
  rw [hv]
  clear hv hb1 hb2 hb3 hbe hat hl hB hk hkk hbt hsz0 hone0 hold0 hoy hsr hszd holdd honed
  go_enter Tryz.func69, Tryz.ntmps69
  go_wp2_with (first | ((with_reducible refine wpList_at 8 rfl ?_); refine wpList_build_v rfl 35 #[(0, .tmp 5), (1, .tmp 7)] rfl D0 [(0, .int .i64 kk), (1, .int .i64 a.tick)] (by rw [Array.toList_map]; rfl) HH0.out.1 ?_) | ((with_reducible refine wpList_op (.store 35 (.tmp 3) (.tmp 8)) rfl ?_); refine wpList_store_row rfl 35 (.tmp 3) (.tmp 8) rfl (w.heap.size + 1 + 1) D0 rfl rfl 35 _ HH1.out.1 HH0.out.2.1 HH0.out.2.2.2 HH0.out.2.2.1 ?_; rw [HH1.out.2]) | ((with_reducible refine wpList_at 101 rfl ?_); refine wpList_load_row_g (by rfl) 35 (.tmp 3) rfl (w.heap.size + 1 + 1) rfl 35 D (0, 0) _ HC0.out Tryz.underlying35 rfl HH2.out.1 ?_) | ((with_reducible refine wpList_op (.store 35 (.tmp 2) (.tmp 101)) rfl ?_); refine wpList_store_row rfl 35 (.tmp 2) (.tmp 101) rfl (w.heap.size + 1) D rfl rfl 35 _ HO0.out HH2.out.1 HH2.out.2.1 HH2.out.2.2 ?_))
  all_goals (refine bodyPost_ret (results_cell1 Tryz.results69 _ _ (w.heap.size + 1) 35 D (0, 0) _ (by rfl) (setRow_heap _ _ _ _ _ _ HO0.out) Tryz.underlying35 rfl HH2.out.1) rfl ?_)
  all_goals (have HEX := HE0.out)
  all_goals (refine ⟨(EvM.zero kk a.tick), by rw [HDV.out], ?_, ⟨Sl.empty, ⟨SrcsAt.empty, Sl.empty⟩, Sl.empty⟩, ⟨Nat.zero_le _, (fun s hs => by cases hs), Nat.zero_le _⟩, below_setR HEX (by omega) D⟩)
  all_goals (
    unfold onlyE
    have e : evF a.kind = [] := tabF_out (by show a.kind < 1 ∨ ((13 : Nat) : Int) < a.kind; have := HA.out.2.2.2; omega)
    rw [show evF a.con.kind = [] from e, HKK.out]
    rfl
  )
theorem onlyEv_any (a : EvM) (w : World) (B : Nat) (hat : EvAt w B a) (hB : B ≤ w.heap.size) (hl : ActL a.act) : Calls Tryz.prog 69 #[evV a] w (RetOE a B w) := by
  by_cases h1 : a.kind = 1
  · exact onlyEv_1 a w B hat hB hl h1
  by_cases h2 : a.kind = 2
  · exact onlyEv_2 a w B hat hB hl h2
  by_cases h3 : a.kind = 3
  · exact onlyEv_3 a w B hat hB hl h3
  by_cases h4 : a.kind = 4
  · exact onlyEv_4 a w B hat hB hl h4
  by_cases h5 : a.kind = 5
  · exact onlyEv_5 a w B hat hB hl h5
  by_cases h6 : a.kind = 6
  · exact onlyEv_6 a w B hat hB hl h6
  by_cases h7 : a.kind = 7
  · exact onlyEv_7 a w B hat hB hl h7
  by_cases h8 : a.kind = 8
  · exact onlyEv_8 a w B hat hB hl h8
  by_cases h9 : a.kind = 9
  · exact onlyEv_9 a w B hat hB hl h9
  by_cases h10 : a.kind = 10
  · exact onlyEv_10 a w B hat hB hl h10
  by_cases h11 : a.kind = 11
  · exact onlyEv_11 a w B hat hB hl h11
  by_cases h12 : a.kind = 12
  · exact onlyEv_12 a w B hat hB hl h12
  by_cases h13 : a.kind = 13
  · exact onlyEv_13 a w B hat hB hl h13
  exact onlyEv_rest a w B hat hB hl ⟨h1, h2, h3, h4, h5, h6, h7, h8, h9, h10, h11, h12, h13⟩
end
section
open Go.RowKit Go.Maps

theorem ev_ok (e : EvC) : EvOk e ↔ evN e.kind ≠ [] ∧ e = onlyE e ∧ (0 ≤ e.tick ∧ e.tick ≤ 1099511627776) ∧ (e.kind = 1 → ActOk e.act) := by
  unfold EvOk
  rw [onlyE_iff]
  have h4 : 4 ∈ evF e.kind ↔ e.kind = 1 := by
    by_cases h : 1 ≤ e.kind ∧ e.kind ≤ 13
    · exact int_13 (P := fun k => 4 ∈ evF k ↔ k = 1) (by decide) h.1 h.2
    · rw [show evF e.kind = [] from tabF_out (by show e.kind < 1 ∨ ((13 : Nat) : Int) < e.kind; omega)]
      constructor
      · intro q
        cases q
      · intro q
        omega
  rw [h4]
  exact ⟨fun ⟨a, b, c, d⟩ => ⟨a, d, b, c⟩, fun ⟨a, b, c, d⟩ => ⟨a, c, d, b⟩⟩
set_option maxRecDepth 100000 in
set_option maxHeartbeats 4000000 in
theorem right_any (a : EvM) (w : World) (hat : EvAt w w.heap.size a) (hl : ActL a.act) : Calls Tryz.prog 38 #[evV a] w fun e w' => e = .returned (.bool (tb (EvOk a.con))) ∧ Below w.heap.size w w' := by
  obtain ⟨L, hL⟩ : ∃ L, L = evCs a := ⟨_, rfl⟩
  have hv : evV a = .agg L.toArray := by rw [hL]; rfl
  have HSZ := Lib.hid (And.intro (show (Tryz.prog.info? 35).map (·.size) = some L.length by rw [hL]; exact ev_size) (show (Tryz.prog.info? 33).map (·.size) = some (actCs a.act).length from act_size))
  obtain ⟨W1, hW1⟩ : ∃ W1, W1 = (w.alloc (.cells L.toArray 35)) := ⟨_, rfl⟩
  have hb1 : Below w.heap.size w W1 := by rw [hW1]; exact below_new _ _
  have hlt1 : w.heap.size < W1.heap.size := by rw [hW1]; simp
  have hrow : W1.rangeAt w.heap.size 0 (evCs a) := fun j v hj => by
    have h := new_obj w (.cells L.toArray 35)
    rw [hW1, Lib.cell_of_heap h, hL]
    simpa using hj
  have HRG := Lib.hid (show ∀ w' : World, Below W1.heap.size W1 w' → w'.rangeAt w.heap.size 0 (evCs a) from fun w' hb j v hj => (hb.cell (p := ⟨w.heap.size, 0 + j, none⟩) hlt1).trans (hrow j v hj))
  have HRL := Lib.hid (show ∀ w' : World, Below W1.heap.size W1 w' → w'.rangeAt w.heap.size 0 L from fun w' hb => by rw [hL]; exact HRG.out w' hb)
  have HRA := Lib.hid (show ∀ w' : World, Below W1.heap.size W1 w' → w'.rangeAt w.heap.size 19 (actCs a.act) from fun w' hb => range_part (HRG.out w' hb) (fun j v hj => by
    match j, hj with
    | 0, hj => exact hj
    | 1, hj => exact hj
    | 2, hj => exact hj
    | 3, hj => exact hj
    | 4, hj => exact hj
    | 5, hj => exact hj
    | 6, hj => exact hj
    | 7, hj => exact hj
    | j + 8, hj => simp [actCs] at hj))
  have HB1 := Lib.hid (And.intro hb1 (And.intro hat hl))
  have HEW := Lib.hid (fun X : World => evWord_any a.kind X)
  have HOE := Lib.hid (fun (X : World) (hb : Below W1.heap.size W1 X) => onlyEv_any a X w.heap.size (hat.below ((hb1.trans (hb.mono hb1.size)))) (Nat.le_trans hb1.size hb.size) hl)
  have HON := Lib.hid (fun (X : World) (hb : Below W1.heap.size W1 X) (a' : EvM) (B : Nat) (h : EvAt X B a') (hB : B ≤ X.heap.size) => one_any a a' X w.heap.size B (hat.below ((hb1.trans (hb.mono hb1.size)))) h (Nat.le_trans hb1.size hb.size) hB hl)
  have HRI := Lib.hid (fun (X : World) (hb : Below W1.heap.size W1 X) => rightAct_any a.act X ((hat.act.below (hb1.trans (hb.mono hb1.size))).more (hb1.trans (hb.mono hb1.size)).size) hl)
  rw [show actV a.act = .agg (actCs a.act).toArray from rfl] at HRI
  rw [hv] at HOE HON ⊢
  obtain ⟨kk, hkk⟩ : ∃ kk, kk = a.kind := ⟨_, rfl⟩
  obtain ⟨tk, htk⟩ : ∃ tk, tk = a.tick := ⟨_, rfl⟩
  have HC0 := Lib.hid (show ∀ w' : World, Below W1.heap.size W1 w' → w'.cell? ⟨w.heap.size, 0, none⟩ = some (.int .i64 kk) ∧ w'.cell? ⟨w.heap.size, 1, none⟩ = some (.int .i64 tk) from fun w' hb => by rw [hkk, htk]; exact ⟨HRG.out w' hb 0 _ rfl, HRG.out w' hb 1 _ rfl⟩)
  rw [← hkk] at HEW
  have HOK := Lib.hid (show EvOk a.con ↔ evN kk ≠ [] ∧ a.con = onlyE a.con ∧ (0 ≤ tk ∧ tk ≤ 1099511627776) ∧ (kk = 1 → ActOk a.act.con) by rw [hkk, htk]; exact ev_ok a.con)
  have HHD := Lib.hid (show Below W1.heap.size W1 W1.drew from below_dr (Below.refl _ _) 1)
  obtain ⟨nm, hnm⟩ : ∃ nm, nm = evN kk := ⟨_, rfl⟩
  rw [← hnm] at HEW HOK
  clear hL hv hb1 hlt1 hrow hat hl hkk htk hnm
  go_enter Tryz.func38, Tryz.ntmps38
  go_wp2_with fail
  rw [← hW1]
  clear hW1
  by_cases hne : nm = []
  · have hnn : (bs nm).toList = [] := by rw [ByteArray.toList_eq, bs_data]; exact hne
    have HF : Hid (¬ EvOk a.con) := Lib.hid (fun h => (HOK.out.1 h).1 hne)
    clear hne
    refine wp_region_held_drew (S := fun W' => Below W1.heap.size W1 W') (by kernel_rfl) HHD.out (fun hHeld => ?_)
    refine wpAnyH_take (i := 0) (v := .pointer (some ⟨w.heap.size, 0, none⟩)) rfl (by kernel_rfl) (by kernel_rfl) (by kernel_rfl) (fun _ _ _ h => h) (Or.inl ⟨by rfl, ?_⟩) (by assumption) ?_
    · intro w' hSw
      go_simp
    show wpAnyH _ _ _ _ _ _ _ (Act.put _ (some 3) _) _
    simp only [Act.put, List.setIfInBounds_toArray, List.set_cons_zero, List.set_cons_succ]
    refine wpAnyH_take (i := 1) (v := .int .i64 kk) rfl (by kernel_rfl) (by kernel_rfl) (by kernel_rfl) (fun _ _ _ h => h) (Or.inl ⟨by rfl, ?_⟩) (by assumption) ?_
    · intro w' hSw
      have hc := (HC0.out w' hSw).1
      go_simp
    show wpAnyH _ _ _ _ _ _ _ (Act.put _ (some 4) _) _
    simp only [Act.put, List.setIfInBounds_toArray, List.set_cons_zero, List.set_cons_succ]
    refine wpAnyH_ready (rs := [2]) (by kernel_rfl) (by simp) ?_
    refine AllReadyH.cons rfl (fun K hK => ?_) AllReadyH.nil
    go_simp
    refine (HEW.out _).mono ?_
    rintro e X1 ⟨rfl, hx1⟩
    go_simp
    refine hK.out _ _ (hHeld.trans (hx1.mono hHeld.size)) (fun hHeld => ?_)
    clear hK K
    have hX1 := hHeld
    clear hx1
    refine wpAnyH_take (i := 3) (v := .bool false) rfl (by kernel_rfl) (by kernel_rfl) (by kernel_rfl) (fun _ _ _ h => h) (Or.inl ⟨by rfl, ?_⟩) (by assumption) ?_
    · intro w' hSw
      go_simp
    show wpAnyH _ _ _ _ _ _ _ (Act.put _ (some 6) _) _
    simp only [Act.put, List.setIfInBounds_toArray, List.set_cons_zero, List.set_cons_succ]
    refine wpAnyH_take (i := 4) (v := .bool false) rfl (by kernel_rfl) (by kernel_rfl) (by kernel_rfl) (fun _ _ _ h => h) (Or.inl ⟨by rfl, ?_⟩) (by assumption) ?_
    · intro w' hSw
      go_simp
    show wpAnyH _ _ _ _ _ _ _ (Act.put _ (some 7) _) _
    simp only [Act.put, List.setIfInBounds_toArray, List.set_cons_zero, List.set_cons_succ]
    refine wpAnyH_take (i := 5) (v := undef) rfl (by kernel_rfl) (by kernel_rfl) (by kernel_rfl) (fun _ _ _ h => h) (Or.inr ⟨by rfl, rfl⟩) (by assumption) ?_
    show wpAnyH _ _ _ _ _ _ _ (Act.put _ (some 8) _) _
    simp only [Act.put, List.setIfInBounds_toArray, List.set_cons_zero, List.set_cons_succ]
    refine wpAnyH_take (i := 6) (v := undef) rfl (by kernel_rfl) (by kernel_rfl) (by kernel_rfl) (fun _ _ _ h => h) (Or.inr ⟨by rfl, rfl⟩) (by assumption) ?_
    show wpAnyH _ _ _ _ _ _ _ (Act.put _ (some 9) _) _
    simp only [Act.put, List.setIfInBounds_toArray, List.set_cons_zero, List.set_cons_succ]
    refine wpAnyH_take (i := 7) (v := undef) rfl (by kernel_rfl) (by kernel_rfl) (by kernel_rfl) (fun _ _ _ h => h) (Or.inr ⟨by rfl, rfl⟩) (by assumption) ?_
    show wpAnyH _ _ _ _ _ _ _ (Act.put _ (some 10) _) _
    simp only [Act.put, List.setIfInBounds_toArray, List.set_cons_zero, List.set_cons_succ]
    refine wpAnyH_take (i := 8) (v := undef) rfl (by kernel_rfl) (by kernel_rfl) (by kernel_rfl) (fun _ _ _ h => h) (Or.inr ⟨by rfl, rfl⟩) (by assumption) ?_
    show wpAnyH _ _ _ _ _ _ _ (Act.put _ (some 11) _) _
    simp only [Act.put, List.setIfInBounds_toArray, List.set_cons_zero, List.set_cons_succ]
    refine wpAnyH_take (i := 9) (v := .bool false) rfl (by kernel_rfl) (by kernel_rfl) (by kernel_rfl) (fun _ _ _ h => h) (Or.inl ⟨by rfl, ?_⟩) (by assumption) ?_
    · intro w' hSw
      go_simp
    show wpAnyH _ _ _ _ _ _ _ (Act.put _ (some 12) _) _
    simp only [Act.put, List.setIfInBounds_toArray, List.set_cons_zero, List.set_cons_succ]
    refine wpAnyH_take (i := 10) (v := .bool false) rfl (by kernel_rfl) (by kernel_rfl) (by kernel_rfl) (fun _ _ _ h => h) (Or.inl ⟨by rfl, ?_⟩) (by assumption) ?_
    · intro w' hSw
      go_simp
    show wpAnyH _ _ _ _ _ _ _ (Act.put _ (some 13) _) _
    simp only [Act.put, List.setIfInBounds_toArray, List.set_cons_zero, List.set_cons_succ]
    refine wpAnyH_take (i := 11) (v := undef) rfl (by kernel_rfl) (by kernel_rfl) (by kernel_rfl) (fun _ _ _ h => h) (Or.inr ⟨by rfl, rfl⟩) (by assumption) ?_
    show wpAnyH _ _ _ _ _ _ _ (Act.put _ (some 14) _) _
    simp only [Act.put, List.setIfInBounds_toArray, List.set_cons_zero, List.set_cons_succ]
    refine wpAnyH_take (i := 12) (v := undef) rfl (by kernel_rfl) (by kernel_rfl) (by kernel_rfl) (fun _ _ _ h => h) (Or.inr ⟨by rfl, rfl⟩) (by assumption) ?_
    show wpAnyH _ _ _ _ _ _ _ (Act.put _ (some 15) _) _
    simp only [Act.put, List.setIfInBounds_toArray, List.set_cons_zero, List.set_cons_succ]
    refine wpAnyH_take (i := 13) (v := undef) rfl (by kernel_rfl) (by kernel_rfl) (by kernel_rfl) (fun _ _ _ h => h) (Or.inr ⟨by rfl, rfl⟩) (by assumption) ?_
    show wpAnyH _ _ _ _ _ _ _ (Act.put _ (some 16) _) _
    simp only [Act.put, List.setIfInBounds_toArray, List.set_cons_zero, List.set_cons_succ]
    refine wpAnyH_take (i := 14) (v := .bool false) rfl (by kernel_rfl) (by kernel_rfl) (by kernel_rfl) (fun _ _ _ h => h) (Or.inl ⟨by rfl, ?_⟩) (by assumption) ?_
    · intro w' hSw
      go_simp
    show wpAnyH _ _ _ _ _ _ _ (Act.put _ (some 17) _) _
    simp only [Act.put, List.setIfInBounds_toArray, List.set_cons_zero, List.set_cons_succ]
    refine wpAnyH_take (i := 15) (v := .bool false) rfl (by kernel_rfl) (by kernel_rfl) (by kernel_rfl) (fun _ _ _ h => h) (Or.inl ⟨by rfl, ?_⟩) (by assumption) ?_
    · intro w' hSw
      go_simp
    show wpAnyH _ _ _ _ _ _ _ (Act.put _ (some 18) _) _
    simp only [Act.put, List.setIfInBounds_toArray, List.set_cons_zero, List.set_cons_succ]
    refine wpAnyH_take (i := 16) (v := undef) rfl (by kernel_rfl) (by kernel_rfl) (by kernel_rfl) (fun _ _ _ h => h) (Or.inr ⟨by rfl, rfl⟩) (by assumption) ?_
    show wpAnyH _ _ _ _ _ _ _ (Act.put _ (some 19) _) _
    simp only [Act.put, List.setIfInBounds_toArray, List.set_cons_zero, List.set_cons_succ]
    refine wpAnyH_take (i := 17) (v := undef) rfl (by kernel_rfl) (by kernel_rfl) (by kernel_rfl) (fun _ _ _ h => h) (Or.inr ⟨by rfl, rfl⟩) (by assumption) ?_
    show wpAnyH _ _ _ _ _ _ _ (Act.put _ (some 20) _) _
    simp only [Act.put, List.setIfInBounds_toArray, List.set_cons_zero, List.set_cons_succ]
    refine wpAnyH_take (i := 18) (v := undef) rfl (by kernel_rfl) (by kernel_rfl) (by kernel_rfl) (fun _ _ _ h => h) (Or.inr ⟨by rfl, rfl⟩) (by assumption) ?_
    show wpAnyH _ _ _ _ _ _ _ (Act.put _ (some 21) _) _
    simp only [Act.put, List.setIfInBounds_toArray, List.set_cons_zero, List.set_cons_succ]
    refine wpAnyH_take (i := 19) (v := .bool false) rfl (by kernel_rfl) (by kernel_rfl) (by kernel_rfl) (fun _ _ _ h => h) (Or.inl ⟨by rfl, ?_⟩) (by assumption) ?_
    · intro w' hSw
      go_simp
    show wpAnyH _ _ _ _ _ _ _ (Act.put _ (some 22) _) _
    simp only [Act.put, List.setIfInBounds_toArray, List.set_cons_zero, List.set_cons_succ]
    refine wpAnyH_take (i := 20) (v := .bool false) rfl (by kernel_rfl) (by kernel_rfl) (by kernel_rfl) (fun _ _ _ h => h) (Or.inl ⟨by rfl, ?_⟩) (by assumption) ?_
    · intro w' hSw
      go_simp
    show wpAnyH _ _ _ _ _ _ _ (Act.put _ (some 23) _) _
    simp only [Act.put, List.setIfInBounds_toArray, List.set_cons_zero, List.set_cons_succ]
    refine wpAnyH_take (i := 21) (v := undef) rfl (by kernel_rfl) (by kernel_rfl) (by kernel_rfl) (fun _ _ _ h => h) (Or.inr ⟨by rfl, rfl⟩) (by assumption) ?_
    show wpAnyH _ _ _ _ _ _ _ (Act.put _ (some 24) _) _
    simp only [Act.put, List.setIfInBounds_toArray, List.set_cons_zero, List.set_cons_succ]
    refine wpAnyH_take (i := 22) (v := undef) rfl (by kernel_rfl) (by kernel_rfl) (by kernel_rfl) (fun _ _ _ h => h) (Or.inr ⟨by rfl, rfl⟩) (by assumption) ?_
    show wpAnyH _ _ _ _ _ _ _ (Act.put _ (some 25) _) _
    simp only [Act.put, List.setIfInBounds_toArray, List.set_cons_zero, List.set_cons_succ]
    refine wpAnyH_take (i := 23) (v := undef) rfl (by kernel_rfl) (by kernel_rfl) (by kernel_rfl) (fun _ _ _ h => h) (Or.inr ⟨by rfl, rfl⟩) (by assumption) ?_
    show wpAnyH _ _ _ _ _ _ _ (Act.put _ (some 26) _) _
    simp only [Act.put, List.setIfInBounds_toArray, List.set_cons_zero, List.set_cons_succ]
    refine wpAnyH_take (i := 24) (v := undef) rfl (by kernel_rfl) (by kernel_rfl) (by kernel_rfl) (fun _ _ _ h => h) (Or.inr ⟨by rfl, rfl⟩) (by assumption) ?_
    show wpAnyH _ _ _ _ _ _ _ (Act.put _ (some 27) _) _
    simp only [Act.put, List.setIfInBounds_toArray, List.set_cons_zero, List.set_cons_succ]
    refine wpAnyH_take (i := 25) (v := undef) rfl (by kernel_rfl) (by kernel_rfl) (by kernel_rfl) (fun _ _ _ h => h) (Or.inr ⟨by rfl, rfl⟩) (by assumption) ?_
    show wpAnyH _ _ _ _ _ _ _ (Act.put _ (some 28) _) _
    simp only [Act.put, List.setIfInBounds_toArray, List.set_cons_zero, List.set_cons_succ]
    refine wpAnyH_take (i := 26) (v := undef) rfl (by kernel_rfl) (by kernel_rfl) (by kernel_rfl) (fun _ _ _ h => h) (Or.inr ⟨by rfl, rfl⟩) (by assumption) ?_
    show wpAnyH _ _ _ _ _ _ _ (Act.put _ (some 29) _) _
    simp only [Act.put, List.setIfInBounds_toArray, List.set_cons_zero, List.set_cons_succ]
    refine wpAnyH_take (i := 27) (v := undef) rfl (by kernel_rfl) (by kernel_rfl) (by kernel_rfl) (fun _ _ _ h => h) (Or.inr ⟨by rfl, rfl⟩) (by assumption) ?_
    show wpAnyH _ _ _ _ _ _ _ (Act.put _ (some 30) _) _
    simp only [Act.put, List.setIfInBounds_toArray, List.set_cons_zero, List.set_cons_succ]
    refine wpAnyH_take (i := 28) (v := undef) rfl (by kernel_rfl) (by kernel_rfl) (by kernel_rfl) (fun _ _ _ h => h) (Or.inr ⟨by rfl, rfl⟩) (by assumption) ?_
    show wpAnyH _ _ _ _ _ _ _ (Act.put _ (some 31) _) _
    simp only [Act.put, List.setIfInBounds_toArray, List.set_cons_zero, List.set_cons_succ]
    refine wpAnyH_take (i := 29) (v := .bool false) rfl (by kernel_rfl) (by kernel_rfl) (by kernel_rfl) (fun _ _ _ h => h) (Or.inl ⟨by rfl, ?_⟩) (by assumption) ?_
    · intro w' hSw
      go_simp
    show wpAnyH _ _ _ _ _ _ _ (Act.put _ (some 32) _) _
    simp only [Act.put, List.setIfInBounds_toArray, List.set_cons_zero, List.set_cons_succ]
    refine wpAnyH_take (i := 30) (v := .bool false) rfl (by kernel_rfl) (by kernel_rfl) (by kernel_rfl) (fun _ _ _ h => h) (Or.inl ⟨by rfl, ?_⟩) (by assumption) ?_
    · intro w' hSw
      go_simp
    show wpAnyH _ _ _ _ _ _ _ (Act.put _ (some 2) _) _
    simp only [Act.put, List.setIfInBounds_toArray, List.set_cons_zero, List.set_cons_succ]
    refine wpAnyH_done (by kernel_rfl) ?_ _
    go_wp2_with fail
    go_ret
    exact ⟨ret_no HF.out, HB1.out.1.trans (hX1.mono HB1.out.1.size)⟩
  have hnn : ¬ (bs nm).toList = [] := by rw [ByteArray.toList_eq, bs_data]; exact hne
  have HNE := Lib.hid hne
  clear hne
  by_cases hsm : a.con = onlyE a.con
  rotate_left
  · have HSM := Lib.hid hsm
    have HF : Hid (¬ EvOk a.con) := Lib.hid (fun h => hsm (HOK.out.1 h).2.1)
    clear hsm
    refine wp_region_held_drew (S := fun W' => Below W1.heap.size W1 W') (by kernel_rfl) HHD.out (fun hHeld => ?_)
    refine wpAnyH_take (i := 0) (v := .pointer (some ⟨w.heap.size, 0, none⟩)) rfl (by kernel_rfl) (by kernel_rfl) (by kernel_rfl) (fun _ _ _ h => h) (Or.inl ⟨by rfl, ?_⟩) (by assumption) ?_
    · intro w' hSw
      go_simp
    show wpAnyH _ _ _ _ _ _ _ (Act.put _ (some 3) _) _
    simp only [Act.put, List.setIfInBounds_toArray, List.set_cons_zero, List.set_cons_succ]
    refine wpAnyH_take (i := 1) (v := .int .i64 kk) rfl (by kernel_rfl) (by kernel_rfl) (by kernel_rfl) (fun _ _ _ h => h) (Or.inl ⟨by rfl, ?_⟩) (by assumption) ?_
    · intro w' hSw
      have hc := (HC0.out w' hSw).1
      go_simp
    show wpAnyH _ _ _ _ _ _ _ (Act.put _ (some 4) _) _
    simp only [Act.put, List.setIfInBounds_toArray, List.set_cons_zero, List.set_cons_succ]
    refine wpAnyH_ready (rs := [2]) (by kernel_rfl) (by simp) ?_
    refine AllReadyH.cons rfl (fun K hK => ?_) AllReadyH.nil
    go_simp
    refine (HEW.out _).mono ?_
    rintro e X1 ⟨rfl, hx1⟩
    go_simp
    refine hK.out _ _ (hHeld.trans (hx1.mono hHeld.size)) (fun hHeld => ?_)
    clear hK K
    have hX1 := hHeld
    clear hx1
    refine wpAnyH_take (i := 3) (v := .bool true) rfl (by kernel_rfl) (by kernel_rfl) (by kernel_rfl) (fun _ _ _ h => h) (Or.inl ⟨by rfl, ?_⟩) (by assumption) ?_
    · intro w' hSw
      go_simp
    show wpAnyH _ _ _ _ _ _ _ (Act.put _ (some 6) _) _
    simp only [Act.put, List.setIfInBounds_toArray, List.set_cons_zero, List.set_cons_succ]
    refine wpAnyH_take (i := 4) (v := .bool true) rfl (by kernel_rfl) (by kernel_rfl) (by kernel_rfl) (fun _ _ _ h => h) (Or.inl ⟨by rfl, ?_⟩) (by assumption) ?_
    · intro w' hSw
      go_simp
    show wpAnyH _ _ _ _ _ _ _ (Act.put _ (some 7) _) _
    simp only [Act.put, List.setIfInBounds_toArray, List.set_cons_zero, List.set_cons_succ]
    refine wpAnyH_take (i := 5) (v := .agg L.toArray) rfl (by kernel_rfl) (by kernel_rfl) (by kernel_rfl) (fun _ _ _ h => h) (yieldsIf_load_mid (by rfl) 35 (.tmp 1) rfl w.heap.size 0 rfl L _ (fun w' hSw => HRL.out w' hSw) Tryz.underlying35 rfl HSZ.out.1) (by assumption) ?_
    show wpAnyH _ _ _ _ _ _ _ (Act.put _ (some 8) _) _
    simp only [Act.put, List.setIfInBounds_toArray, List.set_cons_zero, List.set_cons_succ]
    refine wpAnyH_take (i := 6) (v := .agg L.toArray) rfl (by kernel_rfl) (by kernel_rfl) (by kernel_rfl) (fun _ _ _ h => h) (yieldsIf_load_mid (by rfl) 35 (.tmp 1) rfl w.heap.size 0 rfl L _ (fun w' hSw => HRL.out w' hSw) Tryz.underlying35 rfl HSZ.out.1) (by assumption) ?_
    show wpAnyH _ _ _ _ _ _ _ (Act.put _ (some 9) _) _
    simp only [Act.put, List.setIfInBounds_toArray, List.set_cons_zero, List.set_cons_succ]
    refine wpAnyH_ready (rs := [7]) (by kernel_rfl) (by simp) ?_
    refine AllReadyH.cons rfl (fun K hK => ?_) AllReadyH.nil
    go_simp
    refine (HOE.out _ (by assumption)).mono ?_
    rintro e X2 ⟨a', rfl, hcon, hat', hl', hx2⟩
    have HA' := Lib.hid (And.intro hcon (And.intro hat' hl'))
    clear hcon hat' hl'
    go_simp
    refine hK.out _ _ (hX1.trans (hx2.mono hX1.size)) (fun hHeld => ?_)
    clear hK K
    have hX2 := hHeld
    clear hx2
    refine wpAnyH_ready (rs := [8]) (by kernel_rfl) (by simp) ?_
    refine AllReadyH.cons rfl (fun K hK => ?_) AllReadyH.nil
    go_simp
    refine (HON.out _ (by assumption) a' _ HA'.out.2.1 (Nat.le_trans HB1.out.1.size hX2.size)).mono ?_
    rintro e X3 ⟨rfl, hx3⟩
    rw [tb_false (by rw [HA'.out.1]; exact HSM.out)]
    go_simp
    refine hK.out _ _ (hX2.trans (hx3.mono hX2.size)) (fun hHeld => ?_)
    clear hK K
    have hX3 := hHeld
    clear hx3
    refine wpAnyH_take (i := 9) (v := .bool false) rfl (by kernel_rfl) (by kernel_rfl) (by kernel_rfl) (fun _ _ _ h => h) (Or.inl ⟨by rfl, ?_⟩) (by assumption) ?_
    · intro w' hSw
      go_simp
    show wpAnyH _ _ _ _ _ _ _ (Act.put _ (some 12) _) _
    simp only [Act.put, List.setIfInBounds_toArray, List.set_cons_zero, List.set_cons_succ]
    refine wpAnyH_take (i := 10) (v := .bool false) rfl (by kernel_rfl) (by kernel_rfl) (by kernel_rfl) (fun _ _ _ h => h) (Or.inl ⟨by rfl, ?_⟩) (by assumption) ?_
    · intro w' hSw
      go_simp
    show wpAnyH _ _ _ _ _ _ _ (Act.put _ (some 13) _) _
    simp only [Act.put, List.setIfInBounds_toArray, List.set_cons_zero, List.set_cons_succ]
    refine wpAnyH_take (i := 11) (v := undef) rfl (by kernel_rfl) (by kernel_rfl) (by kernel_rfl) (fun _ _ _ h => h) (Or.inr ⟨by rfl, rfl⟩) (by assumption) ?_
    show wpAnyH _ _ _ _ _ _ _ (Act.put _ (some 14) _) _
    simp only [Act.put, List.setIfInBounds_toArray, List.set_cons_zero, List.set_cons_succ]
    refine wpAnyH_take (i := 12) (v := undef) rfl (by kernel_rfl) (by kernel_rfl) (by kernel_rfl) (fun _ _ _ h => h) (Or.inr ⟨by rfl, rfl⟩) (by assumption) ?_
    show wpAnyH _ _ _ _ _ _ _ (Act.put _ (some 15) _) _
    simp only [Act.put, List.setIfInBounds_toArray, List.set_cons_zero, List.set_cons_succ]
    refine wpAnyH_take (i := 13) (v := undef) rfl (by kernel_rfl) (by kernel_rfl) (by kernel_rfl) (fun _ _ _ h => h) (Or.inr ⟨by rfl, rfl⟩) (by assumption) ?_
    show wpAnyH _ _ _ _ _ _ _ (Act.put _ (some 16) _) _
    simp only [Act.put, List.setIfInBounds_toArray, List.set_cons_zero, List.set_cons_succ]
    refine wpAnyH_take (i := 14) (v := .bool false) rfl (by kernel_rfl) (by kernel_rfl) (by kernel_rfl) (fun _ _ _ h => h) (Or.inl ⟨by rfl, ?_⟩) (by assumption) ?_
    · intro w' hSw
      go_simp
    show wpAnyH _ _ _ _ _ _ _ (Act.put _ (some 17) _) _
    simp only [Act.put, List.setIfInBounds_toArray, List.set_cons_zero, List.set_cons_succ]
    refine wpAnyH_take (i := 15) (v := .bool false) rfl (by kernel_rfl) (by kernel_rfl) (by kernel_rfl) (fun _ _ _ h => h) (Or.inl ⟨by rfl, ?_⟩) (by assumption) ?_
    · intro w' hSw
      go_simp
    show wpAnyH _ _ _ _ _ _ _ (Act.put _ (some 18) _) _
    simp only [Act.put, List.setIfInBounds_toArray, List.set_cons_zero, List.set_cons_succ]
    refine wpAnyH_take (i := 16) (v := undef) rfl (by kernel_rfl) (by kernel_rfl) (by kernel_rfl) (fun _ _ _ h => h) (Or.inr ⟨by rfl, rfl⟩) (by assumption) ?_
    show wpAnyH _ _ _ _ _ _ _ (Act.put _ (some 19) _) _
    simp only [Act.put, List.setIfInBounds_toArray, List.set_cons_zero, List.set_cons_succ]
    refine wpAnyH_take (i := 17) (v := undef) rfl (by kernel_rfl) (by kernel_rfl) (by kernel_rfl) (fun _ _ _ h => h) (Or.inr ⟨by rfl, rfl⟩) (by assumption) ?_
    show wpAnyH _ _ _ _ _ _ _ (Act.put _ (some 20) _) _
    simp only [Act.put, List.setIfInBounds_toArray, List.set_cons_zero, List.set_cons_succ]
    refine wpAnyH_take (i := 18) (v := undef) rfl (by kernel_rfl) (by kernel_rfl) (by kernel_rfl) (fun _ _ _ h => h) (Or.inr ⟨by rfl, rfl⟩) (by assumption) ?_
    show wpAnyH _ _ _ _ _ _ _ (Act.put _ (some 21) _) _
    simp only [Act.put, List.setIfInBounds_toArray, List.set_cons_zero, List.set_cons_succ]
    refine wpAnyH_take (i := 19) (v := .bool false) rfl (by kernel_rfl) (by kernel_rfl) (by kernel_rfl) (fun _ _ _ h => h) (Or.inl ⟨by rfl, ?_⟩) (by assumption) ?_
    · intro w' hSw
      go_simp
    show wpAnyH _ _ _ _ _ _ _ (Act.put _ (some 22) _) _
    simp only [Act.put, List.setIfInBounds_toArray, List.set_cons_zero, List.set_cons_succ]
    refine wpAnyH_take (i := 20) (v := .bool false) rfl (by kernel_rfl) (by kernel_rfl) (by kernel_rfl) (fun _ _ _ h => h) (Or.inl ⟨by rfl, ?_⟩) (by assumption) ?_
    · intro w' hSw
      go_simp
    show wpAnyH _ _ _ _ _ _ _ (Act.put _ (some 23) _) _
    simp only [Act.put, List.setIfInBounds_toArray, List.set_cons_zero, List.set_cons_succ]
    refine wpAnyH_take (i := 21) (v := undef) rfl (by kernel_rfl) (by kernel_rfl) (by kernel_rfl) (fun _ _ _ h => h) (Or.inr ⟨by rfl, rfl⟩) (by assumption) ?_
    show wpAnyH _ _ _ _ _ _ _ (Act.put _ (some 24) _) _
    simp only [Act.put, List.setIfInBounds_toArray, List.set_cons_zero, List.set_cons_succ]
    refine wpAnyH_take (i := 22) (v := undef) rfl (by kernel_rfl) (by kernel_rfl) (by kernel_rfl) (fun _ _ _ h => h) (Or.inr ⟨by rfl, rfl⟩) (by assumption) ?_
    show wpAnyH _ _ _ _ _ _ _ (Act.put _ (some 25) _) _
    simp only [Act.put, List.setIfInBounds_toArray, List.set_cons_zero, List.set_cons_succ]
    refine wpAnyH_take (i := 23) (v := undef) rfl (by kernel_rfl) (by kernel_rfl) (by kernel_rfl) (fun _ _ _ h => h) (Or.inr ⟨by rfl, rfl⟩) (by assumption) ?_
    show wpAnyH _ _ _ _ _ _ _ (Act.put _ (some 26) _) _
    simp only [Act.put, List.setIfInBounds_toArray, List.set_cons_zero, List.set_cons_succ]
    refine wpAnyH_take (i := 24) (v := undef) rfl (by kernel_rfl) (by kernel_rfl) (by kernel_rfl) (fun _ _ _ h => h) (Or.inr ⟨by rfl, rfl⟩) (by assumption) ?_
    show wpAnyH _ _ _ _ _ _ _ (Act.put _ (some 27) _) _
    simp only [Act.put, List.setIfInBounds_toArray, List.set_cons_zero, List.set_cons_succ]
    refine wpAnyH_take (i := 25) (v := undef) rfl (by kernel_rfl) (by kernel_rfl) (by kernel_rfl) (fun _ _ _ h => h) (Or.inr ⟨by rfl, rfl⟩) (by assumption) ?_
    show wpAnyH _ _ _ _ _ _ _ (Act.put _ (some 28) _) _
    simp only [Act.put, List.setIfInBounds_toArray, List.set_cons_zero, List.set_cons_succ]
    refine wpAnyH_take (i := 26) (v := undef) rfl (by kernel_rfl) (by kernel_rfl) (by kernel_rfl) (fun _ _ _ h => h) (Or.inr ⟨by rfl, rfl⟩) (by assumption) ?_
    show wpAnyH _ _ _ _ _ _ _ (Act.put _ (some 29) _) _
    simp only [Act.put, List.setIfInBounds_toArray, List.set_cons_zero, List.set_cons_succ]
    refine wpAnyH_take (i := 27) (v := undef) rfl (by kernel_rfl) (by kernel_rfl) (by kernel_rfl) (fun _ _ _ h => h) (Or.inr ⟨by rfl, rfl⟩) (by assumption) ?_
    show wpAnyH _ _ _ _ _ _ _ (Act.put _ (some 30) _) _
    simp only [Act.put, List.setIfInBounds_toArray, List.set_cons_zero, List.set_cons_succ]
    refine wpAnyH_take (i := 28) (v := undef) rfl (by kernel_rfl) (by kernel_rfl) (by kernel_rfl) (fun _ _ _ h => h) (Or.inr ⟨by rfl, rfl⟩) (by assumption) ?_
    show wpAnyH _ _ _ _ _ _ _ (Act.put _ (some 31) _) _
    simp only [Act.put, List.setIfInBounds_toArray, List.set_cons_zero, List.set_cons_succ]
    refine wpAnyH_take (i := 29) (v := .bool false) rfl (by kernel_rfl) (by kernel_rfl) (by kernel_rfl) (fun _ _ _ h => h) (Or.inl ⟨by rfl, ?_⟩) (by assumption) ?_
    · intro w' hSw
      go_simp
    show wpAnyH _ _ _ _ _ _ _ (Act.put _ (some 32) _) _
    simp only [Act.put, List.setIfInBounds_toArray, List.set_cons_zero, List.set_cons_succ]
    refine wpAnyH_take (i := 30) (v := .bool false) rfl (by kernel_rfl) (by kernel_rfl) (by kernel_rfl) (fun _ _ _ h => h) (Or.inl ⟨by rfl, ?_⟩) (by assumption) ?_
    · intro w' hSw
      go_simp
    show wpAnyH _ _ _ _ _ _ _ (Act.put _ (some 2) _) _
    simp only [Act.put, List.setIfInBounds_toArray, List.set_cons_zero, List.set_cons_succ]
    refine wpAnyH_done (by kernel_rfl) ?_ _
    go_wp2_with fail
    go_ret
    exact ⟨ret_no HF.out, HB1.out.1.trans (hX3.mono HB1.out.1.size)⟩
  have HSM := Lib.hid hsm
  clear hsm
  by_cases h0 : 0 ≤ tk
  rotate_left
  · have d0 : decide (0 ≤ tk) = false := decide_eq_false h0
    have HF : Hid (¬ EvOk a.con) := Lib.hid (fun h => h0 (HOK.out.1 h).2.2.1.1)
    clear h0
    refine wp_region_held_drew (S := fun W' => Below W1.heap.size W1 W') (by kernel_rfl) HHD.out (fun hHeld => ?_)
    refine wpAnyH_take (i := 0) (v := .pointer (some ⟨w.heap.size, 0, none⟩)) rfl (by kernel_rfl) (by kernel_rfl) (by kernel_rfl) (fun _ _ _ h => h) (Or.inl ⟨by rfl, ?_⟩) (by assumption) ?_
    · intro w' hSw
      go_simp
    show wpAnyH _ _ _ _ _ _ _ (Act.put _ (some 3) _) _
    simp only [Act.put, List.setIfInBounds_toArray, List.set_cons_zero, List.set_cons_succ]
    refine wpAnyH_take (i := 1) (v := .int .i64 kk) rfl (by kernel_rfl) (by kernel_rfl) (by kernel_rfl) (fun _ _ _ h => h) (Or.inl ⟨by rfl, ?_⟩) (by assumption) ?_
    · intro w' hSw
      have hc := (HC0.out w' hSw).1
      go_simp
    show wpAnyH _ _ _ _ _ _ _ (Act.put _ (some 4) _) _
    simp only [Act.put, List.setIfInBounds_toArray, List.set_cons_zero, List.set_cons_succ]
    refine wpAnyH_ready (rs := [2]) (by kernel_rfl) (by simp) ?_
    refine AllReadyH.cons rfl (fun K hK => ?_) AllReadyH.nil
    go_simp
    refine (HEW.out _).mono ?_
    rintro e X1 ⟨rfl, hx1⟩
    go_simp
    refine hK.out _ _ (hHeld.trans (hx1.mono hHeld.size)) (fun hHeld => ?_)
    clear hK K
    have hX1 := hHeld
    clear hx1
    refine wpAnyH_take (i := 3) (v := .bool true) rfl (by kernel_rfl) (by kernel_rfl) (by kernel_rfl) (fun _ _ _ h => h) (Or.inl ⟨by rfl, ?_⟩) (by assumption) ?_
    · intro w' hSw
      go_simp
    show wpAnyH _ _ _ _ _ _ _ (Act.put _ (some 6) _) _
    simp only [Act.put, List.setIfInBounds_toArray, List.set_cons_zero, List.set_cons_succ]
    refine wpAnyH_take (i := 4) (v := .bool true) rfl (by kernel_rfl) (by kernel_rfl) (by kernel_rfl) (fun _ _ _ h => h) (Or.inl ⟨by rfl, ?_⟩) (by assumption) ?_
    · intro w' hSw
      go_simp
    show wpAnyH _ _ _ _ _ _ _ (Act.put _ (some 7) _) _
    simp only [Act.put, List.setIfInBounds_toArray, List.set_cons_zero, List.set_cons_succ]
    refine wpAnyH_take (i := 5) (v := .agg L.toArray) rfl (by kernel_rfl) (by kernel_rfl) (by kernel_rfl) (fun _ _ _ h => h) (yieldsIf_load_mid (by rfl) 35 (.tmp 1) rfl w.heap.size 0 rfl L _ (fun w' hSw => HRL.out w' hSw) Tryz.underlying35 rfl HSZ.out.1) (by assumption) ?_
    show wpAnyH _ _ _ _ _ _ _ (Act.put _ (some 8) _) _
    simp only [Act.put, List.setIfInBounds_toArray, List.set_cons_zero, List.set_cons_succ]
    refine wpAnyH_take (i := 6) (v := .agg L.toArray) rfl (by kernel_rfl) (by kernel_rfl) (by kernel_rfl) (fun _ _ _ h => h) (yieldsIf_load_mid (by rfl) 35 (.tmp 1) rfl w.heap.size 0 rfl L _ (fun w' hSw => HRL.out w' hSw) Tryz.underlying35 rfl HSZ.out.1) (by assumption) ?_
    show wpAnyH _ _ _ _ _ _ _ (Act.put _ (some 9) _) _
    simp only [Act.put, List.setIfInBounds_toArray, List.set_cons_zero, List.set_cons_succ]
    refine wpAnyH_ready (rs := [7]) (by kernel_rfl) (by simp) ?_
    refine AllReadyH.cons rfl (fun K hK => ?_) AllReadyH.nil
    go_simp
    refine (HOE.out _ (by assumption)).mono ?_
    rintro e X2 ⟨a', rfl, hcon, hat', hl', hx2⟩
    have HA' := Lib.hid (And.intro hcon (And.intro hat' hl'))
    clear hcon hat' hl'
    go_simp
    refine hK.out _ _ (hX1.trans (hx2.mono hX1.size)) (fun hHeld => ?_)
    clear hK K
    have hX2 := hHeld
    clear hx2
    refine wpAnyH_ready (rs := [8]) (by kernel_rfl) (by simp) ?_
    refine AllReadyH.cons rfl (fun K hK => ?_) AllReadyH.nil
    go_simp
    refine (HON.out _ (by assumption) a' _ HA'.out.2.1 (Nat.le_trans HB1.out.1.size hX2.size)).mono ?_
    rintro e X3 ⟨rfl, hx3⟩
    rw [tb_true (by rw [HA'.out.1]; exact HSM.out)]
    go_simp
    refine hK.out _ _ (hX2.trans (hx3.mono hX2.size)) (fun hHeld => ?_)
    clear hK K
    have hX3 := hHeld
    clear hx3
    refine wpAnyH_take (i := 9) (v := .bool true) rfl (by kernel_rfl) (by kernel_rfl) (by kernel_rfl) (fun _ _ _ h => h) (Or.inl ⟨by rfl, ?_⟩) (by assumption) ?_
    · intro w' hSw
      go_simp
    show wpAnyH _ _ _ _ _ _ _ (Act.put _ (some 12) _) _
    simp only [Act.put, List.setIfInBounds_toArray, List.set_cons_zero, List.set_cons_succ]
    refine wpAnyH_take (i := 10) (v := .bool true) rfl (by kernel_rfl) (by kernel_rfl) (by kernel_rfl) (fun _ _ _ h => h) (Or.inl ⟨by rfl, ?_⟩) (by assumption) ?_
    · intro w' hSw
      go_simp
    show wpAnyH _ _ _ _ _ _ _ (Act.put _ (some 13) _) _
    simp only [Act.put, List.setIfInBounds_toArray, List.set_cons_zero, List.set_cons_succ]
    refine wpAnyH_take (i := 11) (v := .pointer (some ⟨w.heap.size, 1, none⟩)) rfl (by kernel_rfl) (by kernel_rfl) (by kernel_rfl) (fun _ _ _ h => h) (Or.inl ⟨by rfl, ?_⟩) (by assumption) ?_
    · intro w' hSw
      go_simp
    show wpAnyH _ _ _ _ _ _ _ (Act.put _ (some 14) _) _
    simp only [Act.put, List.setIfInBounds_toArray, List.set_cons_zero, List.set_cons_succ]
    refine wpAnyH_take (i := 12) (v := .int .i64 tk) rfl (by kernel_rfl) (by kernel_rfl) (by kernel_rfl) (fun _ _ _ h => h) (Or.inl ⟨by rfl, ?_⟩) (by assumption) ?_
    · intro w' hSw
      have hc := (HC0.out w' hSw).2
      go_simp
    show wpAnyH _ _ _ _ _ _ _ (Act.put _ (some 15) _) _
    simp only [Act.put, List.setIfInBounds_toArray, List.set_cons_zero, List.set_cons_succ]
    refine wpAnyH_take (i := 13) (v := .bool false) rfl (by kernel_rfl) (by kernel_rfl) (by kernel_rfl) (fun _ _ _ h => h) (Or.inl ⟨by rfl, ?_⟩) (by assumption) ?_
    · intro w' hSw
      go_simp
    show wpAnyH _ _ _ _ _ _ _ (Act.put _ (some 16) _) _
    simp only [Act.put, List.setIfInBounds_toArray, List.set_cons_zero, List.set_cons_succ]
    refine wpAnyH_take (i := 14) (v := .bool false) rfl (by kernel_rfl) (by kernel_rfl) (by kernel_rfl) (fun _ _ _ h => h) (Or.inl ⟨by rfl, ?_⟩) (by assumption) ?_
    · intro w' hSw
      go_simp
    show wpAnyH _ _ _ _ _ _ _ (Act.put _ (some 17) _) _
    simp only [Act.put, List.setIfInBounds_toArray, List.set_cons_zero, List.set_cons_succ]
    refine wpAnyH_take (i := 15) (v := .bool false) rfl (by kernel_rfl) (by kernel_rfl) (by kernel_rfl) (fun _ _ _ h => h) (Or.inl ⟨by rfl, ?_⟩) (by assumption) ?_
    · intro w' hSw
      go_simp
    show wpAnyH _ _ _ _ _ _ _ (Act.put _ (some 18) _) _
    simp only [Act.put, List.setIfInBounds_toArray, List.set_cons_zero, List.set_cons_succ]
    refine wpAnyH_take (i := 16) (v := undef) rfl (by kernel_rfl) (by kernel_rfl) (by kernel_rfl) (fun _ _ _ h => h) (Or.inr ⟨by rfl, rfl⟩) (by assumption) ?_
    show wpAnyH _ _ _ _ _ _ _ (Act.put _ (some 19) _) _
    simp only [Act.put, List.setIfInBounds_toArray, List.set_cons_zero, List.set_cons_succ]
    refine wpAnyH_take (i := 17) (v := undef) rfl (by kernel_rfl) (by kernel_rfl) (by kernel_rfl) (fun _ _ _ h => h) (Or.inr ⟨by rfl, rfl⟩) (by assumption) ?_
    show wpAnyH _ _ _ _ _ _ _ (Act.put _ (some 20) _) _
    simp only [Act.put, List.setIfInBounds_toArray, List.set_cons_zero, List.set_cons_succ]
    refine wpAnyH_take (i := 18) (v := undef) rfl (by kernel_rfl) (by kernel_rfl) (by kernel_rfl) (fun _ _ _ h => h) (Or.inr ⟨by rfl, rfl⟩) (by assumption) ?_
    show wpAnyH _ _ _ _ _ _ _ (Act.put _ (some 21) _) _
    simp only [Act.put, List.setIfInBounds_toArray, List.set_cons_zero, List.set_cons_succ]
    refine wpAnyH_take (i := 19) (v := .bool false) rfl (by kernel_rfl) (by kernel_rfl) (by kernel_rfl) (fun _ _ _ h => h) (Or.inl ⟨by rfl, ?_⟩) (by assumption) ?_
    · intro w' hSw
      go_simp
    show wpAnyH _ _ _ _ _ _ _ (Act.put _ (some 22) _) _
    simp only [Act.put, List.setIfInBounds_toArray, List.set_cons_zero, List.set_cons_succ]
    refine wpAnyH_take (i := 20) (v := .bool false) rfl (by kernel_rfl) (by kernel_rfl) (by kernel_rfl) (fun _ _ _ h => h) (Or.inl ⟨by rfl, ?_⟩) (by assumption) ?_
    · intro w' hSw
      go_simp
    show wpAnyH _ _ _ _ _ _ _ (Act.put _ (some 23) _) _
    simp only [Act.put, List.setIfInBounds_toArray, List.set_cons_zero, List.set_cons_succ]
    refine wpAnyH_take (i := 21) (v := undef) rfl (by kernel_rfl) (by kernel_rfl) (by kernel_rfl) (fun _ _ _ h => h) (Or.inr ⟨by rfl, rfl⟩) (by assumption) ?_
    show wpAnyH _ _ _ _ _ _ _ (Act.put _ (some 24) _) _
    simp only [Act.put, List.setIfInBounds_toArray, List.set_cons_zero, List.set_cons_succ]
    refine wpAnyH_take (i := 22) (v := undef) rfl (by kernel_rfl) (by kernel_rfl) (by kernel_rfl) (fun _ _ _ h => h) (Or.inr ⟨by rfl, rfl⟩) (by assumption) ?_
    show wpAnyH _ _ _ _ _ _ _ (Act.put _ (some 25) _) _
    simp only [Act.put, List.setIfInBounds_toArray, List.set_cons_zero, List.set_cons_succ]
    refine wpAnyH_take (i := 23) (v := undef) rfl (by kernel_rfl) (by kernel_rfl) (by kernel_rfl) (fun _ _ _ h => h) (Or.inr ⟨by rfl, rfl⟩) (by assumption) ?_
    show wpAnyH _ _ _ _ _ _ _ (Act.put _ (some 26) _) _
    simp only [Act.put, List.setIfInBounds_toArray, List.set_cons_zero, List.set_cons_succ]
    refine wpAnyH_take (i := 24) (v := undef) rfl (by kernel_rfl) (by kernel_rfl) (by kernel_rfl) (fun _ _ _ h => h) (Or.inr ⟨by rfl, rfl⟩) (by assumption) ?_
    show wpAnyH _ _ _ _ _ _ _ (Act.put _ (some 27) _) _
    simp only [Act.put, List.setIfInBounds_toArray, List.set_cons_zero, List.set_cons_succ]
    refine wpAnyH_take (i := 25) (v := undef) rfl (by kernel_rfl) (by kernel_rfl) (by kernel_rfl) (fun _ _ _ h => h) (Or.inr ⟨by rfl, rfl⟩) (by assumption) ?_
    show wpAnyH _ _ _ _ _ _ _ (Act.put _ (some 28) _) _
    simp only [Act.put, List.setIfInBounds_toArray, List.set_cons_zero, List.set_cons_succ]
    refine wpAnyH_take (i := 26) (v := undef) rfl (by kernel_rfl) (by kernel_rfl) (by kernel_rfl) (fun _ _ _ h => h) (Or.inr ⟨by rfl, rfl⟩) (by assumption) ?_
    show wpAnyH _ _ _ _ _ _ _ (Act.put _ (some 29) _) _
    simp only [Act.put, List.setIfInBounds_toArray, List.set_cons_zero, List.set_cons_succ]
    refine wpAnyH_take (i := 27) (v := undef) rfl (by kernel_rfl) (by kernel_rfl) (by kernel_rfl) (fun _ _ _ h => h) (Or.inr ⟨by rfl, rfl⟩) (by assumption) ?_
    show wpAnyH _ _ _ _ _ _ _ (Act.put _ (some 30) _) _
    simp only [Act.put, List.setIfInBounds_toArray, List.set_cons_zero, List.set_cons_succ]
    refine wpAnyH_take (i := 28) (v := undef) rfl (by kernel_rfl) (by kernel_rfl) (by kernel_rfl) (fun _ _ _ h => h) (Or.inr ⟨by rfl, rfl⟩) (by assumption) ?_
    show wpAnyH _ _ _ _ _ _ _ (Act.put _ (some 31) _) _
    simp only [Act.put, List.setIfInBounds_toArray, List.set_cons_zero, List.set_cons_succ]
    refine wpAnyH_take (i := 29) (v := .bool false) rfl (by kernel_rfl) (by kernel_rfl) (by kernel_rfl) (fun _ _ _ h => h) (Or.inl ⟨by rfl, ?_⟩) (by assumption) ?_
    · intro w' hSw
      go_simp
    show wpAnyH _ _ _ _ _ _ _ (Act.put _ (some 32) _) _
    simp only [Act.put, List.setIfInBounds_toArray, List.set_cons_zero, List.set_cons_succ]
    refine wpAnyH_take (i := 30) (v := .bool false) rfl (by kernel_rfl) (by kernel_rfl) (by kernel_rfl) (fun _ _ _ h => h) (Or.inl ⟨by rfl, ?_⟩) (by assumption) ?_
    · intro w' hSw
      go_simp
    show wpAnyH _ _ _ _ _ _ _ (Act.put _ (some 2) _) _
    simp only [Act.put, List.setIfInBounds_toArray, List.set_cons_zero, List.set_cons_succ]
    refine wpAnyH_done (by kernel_rfl) ?_ _
    go_wp2_with fail
    go_ret
    exact ⟨ret_no HF.out, HB1.out.1.trans (hX3.mono HB1.out.1.size)⟩
  by_cases h1 : tk ≤ 1099511627776
  rotate_left
  · have d0 : decide (0 ≤ tk) = true := decide_eq_true h0
    have d1 : decide (tk ≤ 1099511627776) = false := decide_eq_false h1
    have HF : Hid (¬ EvOk a.con) := Lib.hid (fun h => h1 (HOK.out.1 h).2.2.1.2)
    clear h1 h0
    refine wp_region_held_drew (S := fun W' => Below W1.heap.size W1 W') (by kernel_rfl) HHD.out (fun hHeld => ?_)
    refine wpAnyH_take (i := 0) (v := .pointer (some ⟨w.heap.size, 0, none⟩)) rfl (by kernel_rfl) (by kernel_rfl) (by kernel_rfl) (fun _ _ _ h => h) (Or.inl ⟨by rfl, ?_⟩) (by assumption) ?_
    · intro w' hSw
      go_simp
    show wpAnyH _ _ _ _ _ _ _ (Act.put _ (some 3) _) _
    simp only [Act.put, List.setIfInBounds_toArray, List.set_cons_zero, List.set_cons_succ]
    refine wpAnyH_take (i := 1) (v := .int .i64 kk) rfl (by kernel_rfl) (by kernel_rfl) (by kernel_rfl) (fun _ _ _ h => h) (Or.inl ⟨by rfl, ?_⟩) (by assumption) ?_
    · intro w' hSw
      have hc := (HC0.out w' hSw).1
      go_simp
    show wpAnyH _ _ _ _ _ _ _ (Act.put _ (some 4) _) _
    simp only [Act.put, List.setIfInBounds_toArray, List.set_cons_zero, List.set_cons_succ]
    refine wpAnyH_ready (rs := [2]) (by kernel_rfl) (by simp) ?_
    refine AllReadyH.cons rfl (fun K hK => ?_) AllReadyH.nil
    go_simp
    refine (HEW.out _).mono ?_
    rintro e X1 ⟨rfl, hx1⟩
    go_simp
    refine hK.out _ _ (hHeld.trans (hx1.mono hHeld.size)) (fun hHeld => ?_)
    clear hK K
    have hX1 := hHeld
    clear hx1
    refine wpAnyH_take (i := 3) (v := .bool true) rfl (by kernel_rfl) (by kernel_rfl) (by kernel_rfl) (fun _ _ _ h => h) (Or.inl ⟨by rfl, ?_⟩) (by assumption) ?_
    · intro w' hSw
      go_simp
    show wpAnyH _ _ _ _ _ _ _ (Act.put _ (some 6) _) _
    simp only [Act.put, List.setIfInBounds_toArray, List.set_cons_zero, List.set_cons_succ]
    refine wpAnyH_take (i := 4) (v := .bool true) rfl (by kernel_rfl) (by kernel_rfl) (by kernel_rfl) (fun _ _ _ h => h) (Or.inl ⟨by rfl, ?_⟩) (by assumption) ?_
    · intro w' hSw
      go_simp
    show wpAnyH _ _ _ _ _ _ _ (Act.put _ (some 7) _) _
    simp only [Act.put, List.setIfInBounds_toArray, List.set_cons_zero, List.set_cons_succ]
    refine wpAnyH_take (i := 5) (v := .agg L.toArray) rfl (by kernel_rfl) (by kernel_rfl) (by kernel_rfl) (fun _ _ _ h => h) (yieldsIf_load_mid (by rfl) 35 (.tmp 1) rfl w.heap.size 0 rfl L _ (fun w' hSw => HRL.out w' hSw) Tryz.underlying35 rfl HSZ.out.1) (by assumption) ?_
    show wpAnyH _ _ _ _ _ _ _ (Act.put _ (some 8) _) _
    simp only [Act.put, List.setIfInBounds_toArray, List.set_cons_zero, List.set_cons_succ]
    refine wpAnyH_take (i := 6) (v := .agg L.toArray) rfl (by kernel_rfl) (by kernel_rfl) (by kernel_rfl) (fun _ _ _ h => h) (yieldsIf_load_mid (by rfl) 35 (.tmp 1) rfl w.heap.size 0 rfl L _ (fun w' hSw => HRL.out w' hSw) Tryz.underlying35 rfl HSZ.out.1) (by assumption) ?_
    show wpAnyH _ _ _ _ _ _ _ (Act.put _ (some 9) _) _
    simp only [Act.put, List.setIfInBounds_toArray, List.set_cons_zero, List.set_cons_succ]
    refine wpAnyH_ready (rs := [7]) (by kernel_rfl) (by simp) ?_
    refine AllReadyH.cons rfl (fun K hK => ?_) AllReadyH.nil
    go_simp
    refine (HOE.out _ (by assumption)).mono ?_
    rintro e X2 ⟨a', rfl, hcon, hat', hl', hx2⟩
    have HA' := Lib.hid (And.intro hcon (And.intro hat' hl'))
    clear hcon hat' hl'
    go_simp
    refine hK.out _ _ (hX1.trans (hx2.mono hX1.size)) (fun hHeld => ?_)
    clear hK K
    have hX2 := hHeld
    clear hx2
    refine wpAnyH_ready (rs := [8]) (by kernel_rfl) (by simp) ?_
    refine AllReadyH.cons rfl (fun K hK => ?_) AllReadyH.nil
    go_simp
    refine (HON.out _ (by assumption) a' _ HA'.out.2.1 (Nat.le_trans HB1.out.1.size hX2.size)).mono ?_
    rintro e X3 ⟨rfl, hx3⟩
    rw [tb_true (by rw [HA'.out.1]; exact HSM.out)]
    go_simp
    refine hK.out _ _ (hX2.trans (hx3.mono hX2.size)) (fun hHeld => ?_)
    clear hK K
    have hX3 := hHeld
    clear hx3
    refine wpAnyH_take (i := 9) (v := .bool true) rfl (by kernel_rfl) (by kernel_rfl) (by kernel_rfl) (fun _ _ _ h => h) (Or.inl ⟨by rfl, ?_⟩) (by assumption) ?_
    · intro w' hSw
      go_simp
    show wpAnyH _ _ _ _ _ _ _ (Act.put _ (some 12) _) _
    simp only [Act.put, List.setIfInBounds_toArray, List.set_cons_zero, List.set_cons_succ]
    refine wpAnyH_take (i := 10) (v := .bool true) rfl (by kernel_rfl) (by kernel_rfl) (by kernel_rfl) (fun _ _ _ h => h) (Or.inl ⟨by rfl, ?_⟩) (by assumption) ?_
    · intro w' hSw
      go_simp
    show wpAnyH _ _ _ _ _ _ _ (Act.put _ (some 13) _) _
    simp only [Act.put, List.setIfInBounds_toArray, List.set_cons_zero, List.set_cons_succ]
    refine wpAnyH_take (i := 11) (v := .pointer (some ⟨w.heap.size, 1, none⟩)) rfl (by kernel_rfl) (by kernel_rfl) (by kernel_rfl) (fun _ _ _ h => h) (Or.inl ⟨by rfl, ?_⟩) (by assumption) ?_
    · intro w' hSw
      go_simp
    show wpAnyH _ _ _ _ _ _ _ (Act.put _ (some 14) _) _
    simp only [Act.put, List.setIfInBounds_toArray, List.set_cons_zero, List.set_cons_succ]
    refine wpAnyH_take (i := 12) (v := .int .i64 tk) rfl (by kernel_rfl) (by kernel_rfl) (by kernel_rfl) (fun _ _ _ h => h) (Or.inl ⟨by rfl, ?_⟩) (by assumption) ?_
    · intro w' hSw
      have hc := (HC0.out w' hSw).2
      go_simp
    show wpAnyH _ _ _ _ _ _ _ (Act.put _ (some 15) _) _
    simp only [Act.put, List.setIfInBounds_toArray, List.set_cons_zero, List.set_cons_succ]
    refine wpAnyH_take (i := 13) (v := .bool true) rfl (by kernel_rfl) (by kernel_rfl) (by kernel_rfl) (fun _ _ _ h => h) (Or.inl ⟨by rfl, ?_⟩) (by assumption) ?_
    · intro w' hSw
      go_simp
    show wpAnyH _ _ _ _ _ _ _ (Act.put _ (some 16) _) _
    simp only [Act.put, List.setIfInBounds_toArray, List.set_cons_zero, List.set_cons_succ]
    refine wpAnyH_take (i := 14) (v := .bool true) rfl (by kernel_rfl) (by kernel_rfl) (by kernel_rfl) (fun _ _ _ h => h) (Or.inl ⟨by rfl, ?_⟩) (by assumption) ?_
    · intro w' hSw
      go_simp
    show wpAnyH _ _ _ _ _ _ _ (Act.put _ (some 17) _) _
    simp only [Act.put, List.setIfInBounds_toArray, List.set_cons_zero, List.set_cons_succ]
    refine wpAnyH_take (i := 15) (v := .bool true) rfl (by kernel_rfl) (by kernel_rfl) (by kernel_rfl) (fun _ _ _ h => h) (Or.inl ⟨by rfl, ?_⟩) (by assumption) ?_
    · intro w' hSw
      go_simp
    show wpAnyH _ _ _ _ _ _ _ (Act.put _ (some 18) _) _
    simp only [Act.put, List.setIfInBounds_toArray, List.set_cons_zero, List.set_cons_succ]
    refine wpAnyH_take (i := 16) (v := .pointer (some ⟨w.heap.size, 1, none⟩)) rfl (by kernel_rfl) (by kernel_rfl) (by kernel_rfl) (fun _ _ _ h => h) (Or.inl ⟨by rfl, ?_⟩) (by assumption) ?_
    · intro w' hSw
      go_simp
    show wpAnyH _ _ _ _ _ _ _ (Act.put _ (some 19) _) _
    simp only [Act.put, List.setIfInBounds_toArray, List.set_cons_zero, List.set_cons_succ]
    refine wpAnyH_take (i := 17) (v := .int .i64 tk) rfl (by kernel_rfl) (by kernel_rfl) (by kernel_rfl) (fun _ _ _ h => h) (Or.inl ⟨by rfl, ?_⟩) (by assumption) ?_
    · intro w' hSw
      have hc := (HC0.out w' hSw).2
      go_simp
    show wpAnyH _ _ _ _ _ _ _ (Act.put _ (some 20) _) _
    simp only [Act.put, List.setIfInBounds_toArray, List.set_cons_zero, List.set_cons_succ]
    refine wpAnyH_take (i := 18) (v := .bool false) rfl (by kernel_rfl) (by kernel_rfl) (by kernel_rfl) (fun _ _ _ h => h) (Or.inl ⟨by rfl, ?_⟩) (by assumption) ?_
    · intro w' hSw
      go_simp
    show wpAnyH _ _ _ _ _ _ _ (Act.put _ (some 21) _) _
    simp only [Act.put, List.setIfInBounds_toArray, List.set_cons_zero, List.set_cons_succ]
    refine wpAnyH_take (i := 19) (v := .bool false) rfl (by kernel_rfl) (by kernel_rfl) (by kernel_rfl) (fun _ _ _ h => h) (Or.inl ⟨by rfl, ?_⟩) (by assumption) ?_
    · intro w' hSw
      go_simp
    show wpAnyH _ _ _ _ _ _ _ (Act.put _ (some 22) _) _
    simp only [Act.put, List.setIfInBounds_toArray, List.set_cons_zero, List.set_cons_succ]
    refine wpAnyH_take (i := 20) (v := .bool false) rfl (by kernel_rfl) (by kernel_rfl) (by kernel_rfl) (fun _ _ _ h => h) (Or.inl ⟨by rfl, ?_⟩) (by assumption) ?_
    · intro w' hSw
      go_simp
    show wpAnyH _ _ _ _ _ _ _ (Act.put _ (some 23) _) _
    simp only [Act.put, List.setIfInBounds_toArray, List.set_cons_zero, List.set_cons_succ]
    refine wpAnyH_take (i := 21) (v := undef) rfl (by kernel_rfl) (by kernel_rfl) (by kernel_rfl) (fun _ _ _ h => h) (Or.inr ⟨by rfl, rfl⟩) (by assumption) ?_
    show wpAnyH _ _ _ _ _ _ _ (Act.put _ (some 24) _) _
    simp only [Act.put, List.setIfInBounds_toArray, List.set_cons_zero, List.set_cons_succ]
    refine wpAnyH_take (i := 22) (v := undef) rfl (by kernel_rfl) (by kernel_rfl) (by kernel_rfl) (fun _ _ _ h => h) (Or.inr ⟨by rfl, rfl⟩) (by assumption) ?_
    show wpAnyH _ _ _ _ _ _ _ (Act.put _ (some 25) _) _
    simp only [Act.put, List.setIfInBounds_toArray, List.set_cons_zero, List.set_cons_succ]
    refine wpAnyH_take (i := 23) (v := undef) rfl (by kernel_rfl) (by kernel_rfl) (by kernel_rfl) (fun _ _ _ h => h) (Or.inr ⟨by rfl, rfl⟩) (by assumption) ?_
    show wpAnyH _ _ _ _ _ _ _ (Act.put _ (some 26) _) _
    simp only [Act.put, List.setIfInBounds_toArray, List.set_cons_zero, List.set_cons_succ]
    refine wpAnyH_take (i := 24) (v := undef) rfl (by kernel_rfl) (by kernel_rfl) (by kernel_rfl) (fun _ _ _ h => h) (Or.inr ⟨by rfl, rfl⟩) (by assumption) ?_
    show wpAnyH _ _ _ _ _ _ _ (Act.put _ (some 27) _) _
    simp only [Act.put, List.setIfInBounds_toArray, List.set_cons_zero, List.set_cons_succ]
    refine wpAnyH_take (i := 25) (v := undef) rfl (by kernel_rfl) (by kernel_rfl) (by kernel_rfl) (fun _ _ _ h => h) (Or.inr ⟨by rfl, rfl⟩) (by assumption) ?_
    show wpAnyH _ _ _ _ _ _ _ (Act.put _ (some 28) _) _
    simp only [Act.put, List.setIfInBounds_toArray, List.set_cons_zero, List.set_cons_succ]
    refine wpAnyH_take (i := 26) (v := undef) rfl (by kernel_rfl) (by kernel_rfl) (by kernel_rfl) (fun _ _ _ h => h) (Or.inr ⟨by rfl, rfl⟩) (by assumption) ?_
    show wpAnyH _ _ _ _ _ _ _ (Act.put _ (some 29) _) _
    simp only [Act.put, List.setIfInBounds_toArray, List.set_cons_zero, List.set_cons_succ]
    refine wpAnyH_take (i := 27) (v := undef) rfl (by kernel_rfl) (by kernel_rfl) (by kernel_rfl) (fun _ _ _ h => h) (Or.inr ⟨by rfl, rfl⟩) (by assumption) ?_
    show wpAnyH _ _ _ _ _ _ _ (Act.put _ (some 30) _) _
    simp only [Act.put, List.setIfInBounds_toArray, List.set_cons_zero, List.set_cons_succ]
    refine wpAnyH_take (i := 28) (v := undef) rfl (by kernel_rfl) (by kernel_rfl) (by kernel_rfl) (fun _ _ _ h => h) (Or.inr ⟨by rfl, rfl⟩) (by assumption) ?_
    show wpAnyH _ _ _ _ _ _ _ (Act.put _ (some 31) _) _
    simp only [Act.put, List.setIfInBounds_toArray, List.set_cons_zero, List.set_cons_succ]
    refine wpAnyH_take (i := 29) (v := .bool false) rfl (by kernel_rfl) (by kernel_rfl) (by kernel_rfl) (fun _ _ _ h => h) (Or.inl ⟨by rfl, ?_⟩) (by assumption) ?_
    · intro w' hSw
      go_simp
    show wpAnyH _ _ _ _ _ _ _ (Act.put _ (some 32) _) _
    simp only [Act.put, List.setIfInBounds_toArray, List.set_cons_zero, List.set_cons_succ]
    refine wpAnyH_take (i := 30) (v := .bool false) rfl (by kernel_rfl) (by kernel_rfl) (by kernel_rfl) (fun _ _ _ h => h) (Or.inl ⟨by rfl, ?_⟩) (by assumption) ?_
    · intro w' hSw
      go_simp
    show wpAnyH _ _ _ _ _ _ _ (Act.put _ (some 2) _) _
    simp only [Act.put, List.setIfInBounds_toArray, List.set_cons_zero, List.set_cons_succ]
    refine wpAnyH_done (by kernel_rfl) ?_ _
    go_wp2_with fail
    go_ret
    exact ⟨ret_no HF.out, HB1.out.1.trans (hX3.mono HB1.out.1.size)⟩
  have d0 : decide (0 ≤ tk) = true := decide_eq_true h0
  have d1 : decide (tk ≤ 1099511627776) = true := decide_eq_true h1
  have HTK := Lib.hid (And.intro h0 h1)
  clear h0 h1
  by_cases hk1 : kk = 1
  rotate_left
  · have e1 : (kk == 1) = false := by simpa using hk1
    have e2 : (kk != 1) = true := by simpa using hk1
    have HF : Hid (EvOk a.con) := Lib.hid (HOK.out.2 ⟨HNE.out, HSM.out, HTK.out, fun q => absurd q hk1⟩)
    clear hk1
    refine wp_region_held_drew (S := fun W' => Below W1.heap.size W1 W') (by kernel_rfl) HHD.out (fun hHeld => ?_)
    refine wpAnyH_take (i := 0) (v := .pointer (some ⟨w.heap.size, 0, none⟩)) rfl (by kernel_rfl) (by kernel_rfl) (by kernel_rfl) (fun _ _ _ h => h) (Or.inl ⟨by rfl, ?_⟩) (by assumption) ?_
    · intro w' hSw
      go_simp
    show wpAnyH _ _ _ _ _ _ _ (Act.put _ (some 3) _) _
    simp only [Act.put, List.setIfInBounds_toArray, List.set_cons_zero, List.set_cons_succ]
    refine wpAnyH_take (i := 1) (v := .int .i64 kk) rfl (by kernel_rfl) (by kernel_rfl) (by kernel_rfl) (fun _ _ _ h => h) (Or.inl ⟨by rfl, ?_⟩) (by assumption) ?_
    · intro w' hSw
      have hc := (HC0.out w' hSw).1
      go_simp
    show wpAnyH _ _ _ _ _ _ _ (Act.put _ (some 4) _) _
    simp only [Act.put, List.setIfInBounds_toArray, List.set_cons_zero, List.set_cons_succ]
    refine wpAnyH_ready (rs := [2]) (by kernel_rfl) (by simp) ?_
    refine AllReadyH.cons rfl (fun K hK => ?_) AllReadyH.nil
    go_simp
    refine (HEW.out _).mono ?_
    rintro e X1 ⟨rfl, hx1⟩
    go_simp
    refine hK.out _ _ (hHeld.trans (hx1.mono hHeld.size)) (fun hHeld => ?_)
    clear hK K
    have hX1 := hHeld
    clear hx1
    refine wpAnyH_take (i := 3) (v := .bool true) rfl (by kernel_rfl) (by kernel_rfl) (by kernel_rfl) (fun _ _ _ h => h) (Or.inl ⟨by rfl, ?_⟩) (by assumption) ?_
    · intro w' hSw
      go_simp
    show wpAnyH _ _ _ _ _ _ _ (Act.put _ (some 6) _) _
    simp only [Act.put, List.setIfInBounds_toArray, List.set_cons_zero, List.set_cons_succ]
    refine wpAnyH_take (i := 4) (v := .bool true) rfl (by kernel_rfl) (by kernel_rfl) (by kernel_rfl) (fun _ _ _ h => h) (Or.inl ⟨by rfl, ?_⟩) (by assumption) ?_
    · intro w' hSw
      go_simp
    show wpAnyH _ _ _ _ _ _ _ (Act.put _ (some 7) _) _
    simp only [Act.put, List.setIfInBounds_toArray, List.set_cons_zero, List.set_cons_succ]
    refine wpAnyH_take (i := 5) (v := .agg L.toArray) rfl (by kernel_rfl) (by kernel_rfl) (by kernel_rfl) (fun _ _ _ h => h) (yieldsIf_load_mid (by rfl) 35 (.tmp 1) rfl w.heap.size 0 rfl L _ (fun w' hSw => HRL.out w' hSw) Tryz.underlying35 rfl HSZ.out.1) (by assumption) ?_
    show wpAnyH _ _ _ _ _ _ _ (Act.put _ (some 8) _) _
    simp only [Act.put, List.setIfInBounds_toArray, List.set_cons_zero, List.set_cons_succ]
    refine wpAnyH_take (i := 6) (v := .agg L.toArray) rfl (by kernel_rfl) (by kernel_rfl) (by kernel_rfl) (fun _ _ _ h => h) (yieldsIf_load_mid (by rfl) 35 (.tmp 1) rfl w.heap.size 0 rfl L _ (fun w' hSw => HRL.out w' hSw) Tryz.underlying35 rfl HSZ.out.1) (by assumption) ?_
    show wpAnyH _ _ _ _ _ _ _ (Act.put _ (some 9) _) _
    simp only [Act.put, List.setIfInBounds_toArray, List.set_cons_zero, List.set_cons_succ]
    refine wpAnyH_ready (rs := [7]) (by kernel_rfl) (by simp) ?_
    refine AllReadyH.cons rfl (fun K hK => ?_) AllReadyH.nil
    go_simp
    refine (HOE.out _ (by assumption)).mono ?_
    rintro e X2 ⟨a', rfl, hcon, hat', hl', hx2⟩
    have HA' := Lib.hid (And.intro hcon (And.intro hat' hl'))
    clear hcon hat' hl'
    go_simp
    refine hK.out _ _ (hX1.trans (hx2.mono hX1.size)) (fun hHeld => ?_)
    clear hK K
    have hX2 := hHeld
    clear hx2
    refine wpAnyH_ready (rs := [8]) (by kernel_rfl) (by simp) ?_
    refine AllReadyH.cons rfl (fun K hK => ?_) AllReadyH.nil
    go_simp
    refine (HON.out _ (by assumption) a' _ HA'.out.2.1 (Nat.le_trans HB1.out.1.size hX2.size)).mono ?_
    rintro e X3 ⟨rfl, hx3⟩
    rw [tb_true (by rw [HA'.out.1]; exact HSM.out)]
    go_simp
    refine hK.out _ _ (hX2.trans (hx3.mono hX2.size)) (fun hHeld => ?_)
    clear hK K
    have hX3 := hHeld
    clear hx3
    refine wpAnyH_take (i := 9) (v := .bool true) rfl (by kernel_rfl) (by kernel_rfl) (by kernel_rfl) (fun _ _ _ h => h) (Or.inl ⟨by rfl, ?_⟩) (by assumption) ?_
    · intro w' hSw
      go_simp
    show wpAnyH _ _ _ _ _ _ _ (Act.put _ (some 12) _) _
    simp only [Act.put, List.setIfInBounds_toArray, List.set_cons_zero, List.set_cons_succ]
    refine wpAnyH_take (i := 10) (v := .bool true) rfl (by kernel_rfl) (by kernel_rfl) (by kernel_rfl) (fun _ _ _ h => h) (Or.inl ⟨by rfl, ?_⟩) (by assumption) ?_
    · intro w' hSw
      go_simp
    show wpAnyH _ _ _ _ _ _ _ (Act.put _ (some 13) _) _
    simp only [Act.put, List.setIfInBounds_toArray, List.set_cons_zero, List.set_cons_succ]
    refine wpAnyH_take (i := 11) (v := .pointer (some ⟨w.heap.size, 1, none⟩)) rfl (by kernel_rfl) (by kernel_rfl) (by kernel_rfl) (fun _ _ _ h => h) (Or.inl ⟨by rfl, ?_⟩) (by assumption) ?_
    · intro w' hSw
      go_simp
    show wpAnyH _ _ _ _ _ _ _ (Act.put _ (some 14) _) _
    simp only [Act.put, List.setIfInBounds_toArray, List.set_cons_zero, List.set_cons_succ]
    refine wpAnyH_take (i := 12) (v := .int .i64 tk) rfl (by kernel_rfl) (by kernel_rfl) (by kernel_rfl) (fun _ _ _ h => h) (Or.inl ⟨by rfl, ?_⟩) (by assumption) ?_
    · intro w' hSw
      have hc := (HC0.out w' hSw).2
      go_simp
    show wpAnyH _ _ _ _ _ _ _ (Act.put _ (some 15) _) _
    simp only [Act.put, List.setIfInBounds_toArray, List.set_cons_zero, List.set_cons_succ]
    refine wpAnyH_take (i := 13) (v := .bool true) rfl (by kernel_rfl) (by kernel_rfl) (by kernel_rfl) (fun _ _ _ h => h) (Or.inl ⟨by rfl, ?_⟩) (by assumption) ?_
    · intro w' hSw
      go_simp
    show wpAnyH _ _ _ _ _ _ _ (Act.put _ (some 16) _) _
    simp only [Act.put, List.setIfInBounds_toArray, List.set_cons_zero, List.set_cons_succ]
    refine wpAnyH_take (i := 14) (v := .bool true) rfl (by kernel_rfl) (by kernel_rfl) (by kernel_rfl) (fun _ _ _ h => h) (Or.inl ⟨by rfl, ?_⟩) (by assumption) ?_
    · intro w' hSw
      go_simp
    show wpAnyH _ _ _ _ _ _ _ (Act.put _ (some 17) _) _
    simp only [Act.put, List.setIfInBounds_toArray, List.set_cons_zero, List.set_cons_succ]
    refine wpAnyH_take (i := 15) (v := .bool true) rfl (by kernel_rfl) (by kernel_rfl) (by kernel_rfl) (fun _ _ _ h => h) (Or.inl ⟨by rfl, ?_⟩) (by assumption) ?_
    · intro w' hSw
      go_simp
    show wpAnyH _ _ _ _ _ _ _ (Act.put _ (some 18) _) _
    simp only [Act.put, List.setIfInBounds_toArray, List.set_cons_zero, List.set_cons_succ]
    refine wpAnyH_take (i := 16) (v := .pointer (some ⟨w.heap.size, 1, none⟩)) rfl (by kernel_rfl) (by kernel_rfl) (by kernel_rfl) (fun _ _ _ h => h) (Or.inl ⟨by rfl, ?_⟩) (by assumption) ?_
    · intro w' hSw
      go_simp
    show wpAnyH _ _ _ _ _ _ _ (Act.put _ (some 19) _) _
    simp only [Act.put, List.setIfInBounds_toArray, List.set_cons_zero, List.set_cons_succ]
    refine wpAnyH_take (i := 17) (v := .int .i64 tk) rfl (by kernel_rfl) (by kernel_rfl) (by kernel_rfl) (fun _ _ _ h => h) (Or.inl ⟨by rfl, ?_⟩) (by assumption) ?_
    · intro w' hSw
      have hc := (HC0.out w' hSw).2
      go_simp
    show wpAnyH _ _ _ _ _ _ _ (Act.put _ (some 20) _) _
    simp only [Act.put, List.setIfInBounds_toArray, List.set_cons_zero, List.set_cons_succ]
    refine wpAnyH_take (i := 18) (v := .bool true) rfl (by kernel_rfl) (by kernel_rfl) (by kernel_rfl) (fun _ _ _ h => h) (Or.inl ⟨by rfl, ?_⟩) (by assumption) ?_
    · intro w' hSw
      go_simp
    show wpAnyH _ _ _ _ _ _ _ (Act.put _ (some 21) _) _
    simp only [Act.put, List.setIfInBounds_toArray, List.set_cons_zero, List.set_cons_succ]
    refine wpAnyH_take (i := 19) (v := .bool true) rfl (by kernel_rfl) (by kernel_rfl) (by kernel_rfl) (fun _ _ _ h => h) (Or.inl ⟨by rfl, ?_⟩) (by assumption) ?_
    · intro w' hSw
      go_simp
    show wpAnyH _ _ _ _ _ _ _ (Act.put _ (some 22) _) _
    simp only [Act.put, List.setIfInBounds_toArray, List.set_cons_zero, List.set_cons_succ]
    refine wpAnyH_take (i := 20) (v := .bool true) rfl (by kernel_rfl) (by kernel_rfl) (by kernel_rfl) (fun _ _ _ h => h) (Or.inl ⟨by rfl, ?_⟩) (by assumption) ?_
    · intro w' hSw
      go_simp
    show wpAnyH _ _ _ _ _ _ _ (Act.put _ (some 23) _) _
    simp only [Act.put, List.setIfInBounds_toArray, List.set_cons_zero, List.set_cons_succ]
    refine wpAnyH_take (i := 21) (v := .pointer (some ⟨w.heap.size, 0, none⟩)) rfl (by kernel_rfl) (by kernel_rfl) (by kernel_rfl) (fun _ _ _ h => h) (Or.inl ⟨by rfl, ?_⟩) (by assumption) ?_
    · intro w' hSw
      go_simp
    show wpAnyH _ _ _ _ _ _ _ (Act.put _ (some 24) _) _
    simp only [Act.put, List.setIfInBounds_toArray, List.set_cons_zero, List.set_cons_succ]
    refine wpAnyH_take (i := 22) (v := .int .i64 kk) rfl (by kernel_rfl) (by kernel_rfl) (by kernel_rfl) (fun _ _ _ h => h) (Or.inl ⟨by rfl, ?_⟩) (by assumption) ?_
    · intro w' hSw
      have hc := (HC0.out w' hSw).1
      go_simp
    show wpAnyH _ _ _ _ _ _ _ (Act.put _ (some 25) _) _
    simp only [Act.put, List.setIfInBounds_toArray, List.set_cons_zero, List.set_cons_succ]
    refine wpAnyH_take (i := 23) (v := .bool true) rfl (by kernel_rfl) (by kernel_rfl) (by kernel_rfl) (fun _ _ _ h => h) (Or.inl ⟨by rfl, ?_⟩) (by assumption) ?_
    · intro w' hSw
      go_simp
    show wpAnyH _ _ _ _ _ _ _ (Act.put _ (some 26) _) _
    simp only [Act.put, List.setIfInBounds_toArray, List.set_cons_zero, List.set_cons_succ]
    refine wpAnyH_take (i := 24) (v := .bool true) rfl (by kernel_rfl) (by kernel_rfl) (by kernel_rfl) (fun _ _ _ h => h) (Or.inl ⟨by rfl, ?_⟩) (by assumption) ?_
    · intro w' hSw
      go_simp
    show wpAnyH _ _ _ _ _ _ _ (Act.put _ (some 27) _) _
    simp only [Act.put, List.setIfInBounds_toArray, List.set_cons_zero, List.set_cons_succ]
    refine wpAnyH_take (i := 25) (v := undef) rfl (by kernel_rfl) (by kernel_rfl) (by kernel_rfl) (fun _ _ _ h => h) (Or.inr ⟨by rfl, rfl⟩) (by assumption) ?_
    show wpAnyH _ _ _ _ _ _ _ (Act.put _ (some 28) _) _
    simp only [Act.put, List.setIfInBounds_toArray, List.set_cons_zero, List.set_cons_succ]
    refine wpAnyH_take (i := 26) (v := undef) rfl (by kernel_rfl) (by kernel_rfl) (by kernel_rfl) (fun _ _ _ h => h) (Or.inr ⟨by rfl, rfl⟩) (by assumption) ?_
    show wpAnyH _ _ _ _ _ _ _ (Act.put _ (some 29) _) _
    simp only [Act.put, List.setIfInBounds_toArray, List.set_cons_zero, List.set_cons_succ]
    refine wpAnyH_take (i := 27) (v := undef) rfl (by kernel_rfl) (by kernel_rfl) (by kernel_rfl) (fun _ _ _ h => h) (Or.inr ⟨by rfl, rfl⟩) (by assumption) ?_
    show wpAnyH _ _ _ _ _ _ _ (Act.put _ (some 30) _) _
    simp only [Act.put, List.setIfInBounds_toArray, List.set_cons_zero, List.set_cons_succ]
    refine wpAnyH_take (i := 28) (v := .bool true) rfl (by kernel_rfl) (by kernel_rfl) (by kernel_rfl) (fun _ _ _ h => h) (Or.inl ⟨by rfl, ?_⟩) (by assumption) ?_
    · intro w' hSw
      go_simp
    show wpAnyH _ _ _ _ _ _ _ (Act.put _ (some 31) _) _
    simp only [Act.put, List.setIfInBounds_toArray, List.set_cons_zero, List.set_cons_succ]
    refine wpAnyH_take (i := 29) (v := .bool true) rfl (by kernel_rfl) (by kernel_rfl) (by kernel_rfl) (fun _ _ _ h => h) (Or.inl ⟨by rfl, ?_⟩) (by assumption) ?_
    · intro w' hSw
      go_simp
    show wpAnyH _ _ _ _ _ _ _ (Act.put _ (some 32) _) _
    simp only [Act.put, List.setIfInBounds_toArray, List.set_cons_zero, List.set_cons_succ]
    refine wpAnyH_take (i := 30) (v := .bool true) rfl (by kernel_rfl) (by kernel_rfl) (by kernel_rfl) (fun _ _ _ h => h) (Or.inl ⟨by rfl, ?_⟩) (by assumption) ?_
    · intro w' hSw
      go_simp
    show wpAnyH _ _ _ _ _ _ _ (Act.put _ (some 2) _) _
    simp only [Act.put, List.setIfInBounds_toArray, List.set_cons_zero, List.set_cons_succ]
    refine wpAnyH_done (by kernel_rfl) ?_ _
    go_wp2_with fail
    go_ret
    exact ⟨ret_yes HF.out, HB1.out.1.trans (hX3.mono HB1.out.1.size)⟩
  have HF := Lib.hid (show EvOk a.con ↔ ActOk a.act.con from ⟨fun h => (HOK.out.1 h).2.2.2 hk1, fun h => HOK.out.2 ⟨HNE.out, HSM.out, HTK.out, fun _ => h⟩⟩)
  have e1 : (kk == 1) = true := by simpa using hk1
  have e2 : (kk != 1) = false := by simpa using hk1
  clear hk1
  refine wp_region_held_drew (S := fun W' => Below W1.heap.size W1 W') (by kernel_rfl) HHD.out (fun hHeld => ?_)
  refine wpAnyH_take (i := 0) (v := .pointer (some ⟨w.heap.size, 0, none⟩)) rfl (by kernel_rfl) (by kernel_rfl) (by kernel_rfl) (fun _ _ _ h => h) (Or.inl ⟨by rfl, ?_⟩) (by assumption) ?_
  · intro w' hSw
    go_simp
  show wpAnyH _ _ _ _ _ _ _ (Act.put _ (some 3) _) _
  simp only [Act.put, List.setIfInBounds_toArray, List.set_cons_zero, List.set_cons_succ]
  refine wpAnyH_take (i := 1) (v := .int .i64 kk) rfl (by kernel_rfl) (by kernel_rfl) (by kernel_rfl) (fun _ _ _ h => h) (Or.inl ⟨by rfl, ?_⟩) (by assumption) ?_
  · intro w' hSw
    have hc := (HC0.out w' hSw).1
    go_simp
  show wpAnyH _ _ _ _ _ _ _ (Act.put _ (some 4) _) _
  simp only [Act.put, List.setIfInBounds_toArray, List.set_cons_zero, List.set_cons_succ]
  refine wpAnyH_ready (rs := [2]) (by kernel_rfl) (by simp) ?_
  refine AllReadyH.cons rfl (fun K hK => ?_) AllReadyH.nil
  go_simp
  refine (HEW.out _).mono ?_
  rintro e X1 ⟨rfl, hx1⟩
  go_simp
  refine hK.out _ _ (hHeld.trans (hx1.mono hHeld.size)) (fun hHeld => ?_)
  clear hK K
  have hX1 := hHeld
  clear hx1
  refine wpAnyH_take (i := 3) (v := .bool true) rfl (by kernel_rfl) (by kernel_rfl) (by kernel_rfl) (fun _ _ _ h => h) (Or.inl ⟨by rfl, ?_⟩) (by assumption) ?_
  · intro w' hSw
    go_simp
  show wpAnyH _ _ _ _ _ _ _ (Act.put _ (some 6) _) _
  simp only [Act.put, List.setIfInBounds_toArray, List.set_cons_zero, List.set_cons_succ]
  refine wpAnyH_take (i := 4) (v := .bool true) rfl (by kernel_rfl) (by kernel_rfl) (by kernel_rfl) (fun _ _ _ h => h) (Or.inl ⟨by rfl, ?_⟩) (by assumption) ?_
  · intro w' hSw
    go_simp
  show wpAnyH _ _ _ _ _ _ _ (Act.put _ (some 7) _) _
  simp only [Act.put, List.setIfInBounds_toArray, List.set_cons_zero, List.set_cons_succ]
  refine wpAnyH_take (i := 5) (v := .agg L.toArray) rfl (by kernel_rfl) (by kernel_rfl) (by kernel_rfl) (fun _ _ _ h => h) (yieldsIf_load_mid (by rfl) 35 (.tmp 1) rfl w.heap.size 0 rfl L _ (fun w' hSw => HRL.out w' hSw) Tryz.underlying35 rfl HSZ.out.1) (by assumption) ?_
  show wpAnyH _ _ _ _ _ _ _ (Act.put _ (some 8) _) _
  simp only [Act.put, List.setIfInBounds_toArray, List.set_cons_zero, List.set_cons_succ]
  refine wpAnyH_take (i := 6) (v := .agg L.toArray) rfl (by kernel_rfl) (by kernel_rfl) (by kernel_rfl) (fun _ _ _ h => h) (yieldsIf_load_mid (by rfl) 35 (.tmp 1) rfl w.heap.size 0 rfl L _ (fun w' hSw => HRL.out w' hSw) Tryz.underlying35 rfl HSZ.out.1) (by assumption) ?_
  show wpAnyH _ _ _ _ _ _ _ (Act.put _ (some 9) _) _
  simp only [Act.put, List.setIfInBounds_toArray, List.set_cons_zero, List.set_cons_succ]
  refine wpAnyH_ready (rs := [7]) (by kernel_rfl) (by simp) ?_
  refine AllReadyH.cons rfl (fun K hK => ?_) AllReadyH.nil
  go_simp
  refine (HOE.out _ (by assumption)).mono ?_
  rintro e X2 ⟨a', rfl, hcon, hat', hl', hx2⟩
  have HA' := Lib.hid (And.intro hcon (And.intro hat' hl'))
  clear hcon hat' hl'
  go_simp
  refine hK.out _ _ (hX1.trans (hx2.mono hX1.size)) (fun hHeld => ?_)
  clear hK K
  have hX2 := hHeld
  clear hx2
  refine wpAnyH_ready (rs := [8]) (by kernel_rfl) (by simp) ?_
  refine AllReadyH.cons rfl (fun K hK => ?_) AllReadyH.nil
  go_simp
  refine (HON.out _ (by assumption) a' _ HA'.out.2.1 (Nat.le_trans HB1.out.1.size hX2.size)).mono ?_
  rintro e X3 ⟨rfl, hx3⟩
  rw [tb_true (by rw [HA'.out.1]; exact HSM.out)]
  go_simp
  refine hK.out _ _ (hX2.trans (hx3.mono hX2.size)) (fun hHeld => ?_)
  clear hK K
  have hX3 := hHeld
  clear hx3
  refine wpAnyH_take (i := 9) (v := .bool true) rfl (by kernel_rfl) (by kernel_rfl) (by kernel_rfl) (fun _ _ _ h => h) (Or.inl ⟨by rfl, ?_⟩) (by assumption) ?_
  · intro w' hSw
    go_simp
  show wpAnyH _ _ _ _ _ _ _ (Act.put _ (some 12) _) _
  simp only [Act.put, List.setIfInBounds_toArray, List.set_cons_zero, List.set_cons_succ]
  refine wpAnyH_take (i := 10) (v := .bool true) rfl (by kernel_rfl) (by kernel_rfl) (by kernel_rfl) (fun _ _ _ h => h) (Or.inl ⟨by rfl, ?_⟩) (by assumption) ?_
  · intro w' hSw
    go_simp
  show wpAnyH _ _ _ _ _ _ _ (Act.put _ (some 13) _) _
  simp only [Act.put, List.setIfInBounds_toArray, List.set_cons_zero, List.set_cons_succ]
  refine wpAnyH_take (i := 11) (v := .pointer (some ⟨w.heap.size, 1, none⟩)) rfl (by kernel_rfl) (by kernel_rfl) (by kernel_rfl) (fun _ _ _ h => h) (Or.inl ⟨by rfl, ?_⟩) (by assumption) ?_
  · intro w' hSw
    go_simp
  show wpAnyH _ _ _ _ _ _ _ (Act.put _ (some 14) _) _
  simp only [Act.put, List.setIfInBounds_toArray, List.set_cons_zero, List.set_cons_succ]
  refine wpAnyH_take (i := 12) (v := .int .i64 tk) rfl (by kernel_rfl) (by kernel_rfl) (by kernel_rfl) (fun _ _ _ h => h) (Or.inl ⟨by rfl, ?_⟩) (by assumption) ?_
  · intro w' hSw
    have hc := (HC0.out w' hSw).2
    go_simp
  show wpAnyH _ _ _ _ _ _ _ (Act.put _ (some 15) _) _
  simp only [Act.put, List.setIfInBounds_toArray, List.set_cons_zero, List.set_cons_succ]
  refine wpAnyH_take (i := 13) (v := .bool true) rfl (by kernel_rfl) (by kernel_rfl) (by kernel_rfl) (fun _ _ _ h => h) (Or.inl ⟨by rfl, ?_⟩) (by assumption) ?_
  · intro w' hSw
    go_simp
  show wpAnyH _ _ _ _ _ _ _ (Act.put _ (some 16) _) _
  simp only [Act.put, List.setIfInBounds_toArray, List.set_cons_zero, List.set_cons_succ]
  refine wpAnyH_take (i := 14) (v := .bool true) rfl (by kernel_rfl) (by kernel_rfl) (by kernel_rfl) (fun _ _ _ h => h) (Or.inl ⟨by rfl, ?_⟩) (by assumption) ?_
  · intro w' hSw
    go_simp
  show wpAnyH _ _ _ _ _ _ _ (Act.put _ (some 17) _) _
  simp only [Act.put, List.setIfInBounds_toArray, List.set_cons_zero, List.set_cons_succ]
  refine wpAnyH_take (i := 15) (v := .bool true) rfl (by kernel_rfl) (by kernel_rfl) (by kernel_rfl) (fun _ _ _ h => h) (Or.inl ⟨by rfl, ?_⟩) (by assumption) ?_
  · intro w' hSw
    go_simp
  show wpAnyH _ _ _ _ _ _ _ (Act.put _ (some 18) _) _
  simp only [Act.put, List.setIfInBounds_toArray, List.set_cons_zero, List.set_cons_succ]
  refine wpAnyH_take (i := 16) (v := .pointer (some ⟨w.heap.size, 1, none⟩)) rfl (by kernel_rfl) (by kernel_rfl) (by kernel_rfl) (fun _ _ _ h => h) (Or.inl ⟨by rfl, ?_⟩) (by assumption) ?_
  · intro w' hSw
    go_simp
  show wpAnyH _ _ _ _ _ _ _ (Act.put _ (some 19) _) _
  simp only [Act.put, List.setIfInBounds_toArray, List.set_cons_zero, List.set_cons_succ]
  refine wpAnyH_take (i := 17) (v := .int .i64 tk) rfl (by kernel_rfl) (by kernel_rfl) (by kernel_rfl) (fun _ _ _ h => h) (Or.inl ⟨by rfl, ?_⟩) (by assumption) ?_
  · intro w' hSw
    have hc := (HC0.out w' hSw).2
    go_simp
  show wpAnyH _ _ _ _ _ _ _ (Act.put _ (some 20) _) _
  simp only [Act.put, List.setIfInBounds_toArray, List.set_cons_zero, List.set_cons_succ]
  refine wpAnyH_take (i := 18) (v := .bool true) rfl (by kernel_rfl) (by kernel_rfl) (by kernel_rfl) (fun _ _ _ h => h) (Or.inl ⟨by rfl, ?_⟩) (by assumption) ?_
  · intro w' hSw
    go_simp
  show wpAnyH _ _ _ _ _ _ _ (Act.put _ (some 21) _) _
  simp only [Act.put, List.setIfInBounds_toArray, List.set_cons_zero, List.set_cons_succ]
  refine wpAnyH_take (i := 19) (v := .bool true) rfl (by kernel_rfl) (by kernel_rfl) (by kernel_rfl) (fun _ _ _ h => h) (Or.inl ⟨by rfl, ?_⟩) (by assumption) ?_
  · intro w' hSw
    go_simp
  show wpAnyH _ _ _ _ _ _ _ (Act.put _ (some 22) _) _
  simp only [Act.put, List.setIfInBounds_toArray, List.set_cons_zero, List.set_cons_succ]
  refine wpAnyH_take (i := 20) (v := .bool true) rfl (by kernel_rfl) (by kernel_rfl) (by kernel_rfl) (fun _ _ _ h => h) (Or.inl ⟨by rfl, ?_⟩) (by assumption) ?_
  · intro w' hSw
    go_simp
  show wpAnyH _ _ _ _ _ _ _ (Act.put _ (some 23) _) _
  simp only [Act.put, List.setIfInBounds_toArray, List.set_cons_zero, List.set_cons_succ]
  refine wpAnyH_take (i := 21) (v := .pointer (some ⟨w.heap.size, 0, none⟩)) rfl (by kernel_rfl) (by kernel_rfl) (by kernel_rfl) (fun _ _ _ h => h) (Or.inl ⟨by rfl, ?_⟩) (by assumption) ?_
  · intro w' hSw
    go_simp
  show wpAnyH _ _ _ _ _ _ _ (Act.put _ (some 24) _) _
  simp only [Act.put, List.setIfInBounds_toArray, List.set_cons_zero, List.set_cons_succ]
  refine wpAnyH_take (i := 22) (v := .int .i64 kk) rfl (by kernel_rfl) (by kernel_rfl) (by kernel_rfl) (fun _ _ _ h => h) (Or.inl ⟨by rfl, ?_⟩) (by assumption) ?_
  · intro w' hSw
    have hc := (HC0.out w' hSw).1
    go_simp
  show wpAnyH _ _ _ _ _ _ _ (Act.put _ (some 25) _) _
  simp only [Act.put, List.setIfInBounds_toArray, List.set_cons_zero, List.set_cons_succ]
  refine wpAnyH_take (i := 23) (v := .bool false) rfl (by kernel_rfl) (by kernel_rfl) (by kernel_rfl) (fun _ _ _ h => h) (Or.inl ⟨by rfl, ?_⟩) (by assumption) ?_
  · intro w' hSw
    go_simp
  show wpAnyH _ _ _ _ _ _ _ (Act.put _ (some 26) _) _
  simp only [Act.put, List.setIfInBounds_toArray, List.set_cons_zero, List.set_cons_succ]
  refine wpAnyH_take (i := 24) (v := .bool false) rfl (by kernel_rfl) (by kernel_rfl) (by kernel_rfl) (fun _ _ _ h => h) (Or.inl ⟨by rfl, ?_⟩) (by assumption) ?_
  · intro w' hSw
    go_simp
  show wpAnyH _ _ _ _ _ _ _ (Act.put _ (some 27) _) _
  simp only [Act.put, List.setIfInBounds_toArray, List.set_cons_zero, List.set_cons_succ]
  refine wpAnyH_take (i := 25) (v := .pointer (some ⟨w.heap.size, 19, none⟩)) rfl (by kernel_rfl) (by kernel_rfl) (by kernel_rfl) (fun _ _ _ h => h) (Or.inl ⟨by rfl, ?_⟩) (by assumption) ?_
  · intro w' hSw
    go_simp
  show wpAnyH _ _ _ _ _ _ _ (Act.put _ (some 28) _) _
  simp only [Act.put, List.setIfInBounds_toArray, List.set_cons_zero, List.set_cons_succ]
  refine wpAnyH_take (i := 26) (v := .agg (actCs a.act).toArray) rfl (by kernel_rfl) (by kernel_rfl) (by kernel_rfl) (fun _ _ _ h => h) (yieldsIf_load_mid (by rfl) 33 (.tmp 28) rfl w.heap.size 19 rfl (actCs a.act) _ (fun w' hSw => HRA.out w' hSw) Tryz.underlying33 rfl HSZ.out.2) (by assumption) ?_
  show wpAnyH _ _ _ _ _ _ _ (Act.put _ (some 29) _) _
  simp only [Act.put, List.setIfInBounds_toArray, List.set_cons_zero, List.set_cons_succ]
  refine wpAnyH_ready (rs := [27]) (by kernel_rfl) (by simp) ?_
  refine AllReadyH.cons rfl (fun K hK => ?_) AllReadyH.nil
  go_simp
  refine (HRI.out _ (by assumption)).mono ?_
  rintro e X4 ⟨rfl, hx4⟩
  go_simp
  refine hK.out _ _ (hX3.trans (hx4.mono hX3.size)) (fun hHeld => ?_)
  clear hK K
  have hX4 := hHeld
  clear hx4
  refine wpAnyH_take (i := 28) (v := .bool (tb (ActOk a.act.con))) rfl (by kernel_rfl) (by kernel_rfl) (by kernel_rfl) (fun _ _ _ h => h) (Or.inl ⟨by rfl, ?_⟩) (by assumption) ?_
  · intro w' hSw
    go_simp
  show wpAnyH _ _ _ _ _ _ _ (Act.put _ (some 31) _) _
  simp only [Act.put, List.setIfInBounds_toArray, List.set_cons_zero, List.set_cons_succ]
  refine wpAnyH_take (i := 29) (v := .bool (tb (ActOk a.act.con))) rfl (by kernel_rfl) (by kernel_rfl) (by kernel_rfl) (fun _ _ _ h => h) (Or.inl ⟨by rfl, ?_⟩) (by assumption) ?_
  · intro w' hSw
    go_simp
  show wpAnyH _ _ _ _ _ _ _ (Act.put _ (some 32) _) _
  simp only [Act.put, List.setIfInBounds_toArray, List.set_cons_zero, List.set_cons_succ]
  refine wpAnyH_take (i := 30) (v := .bool (tb (ActOk a.act.con))) rfl (by kernel_rfl) (by kernel_rfl) (by kernel_rfl) (fun _ _ _ h => h) (Or.inl ⟨by rfl, ?_⟩) (by assumption) ?_
  · intro w' hSw
    go_simp
  show wpAnyH _ _ _ _ _ _ _ (Act.put _ (some 2) _) _
  simp only [Act.put, List.setIfInBounds_toArray, List.set_cons_zero, List.set_cons_succ]
  refine wpAnyH_done (by kernel_rfl) ?_ _
  go_wp2_with fail
  go_ret
  refine ⟨?_, HB1.out.1.trans (hX4.mono HB1.out.1.size)⟩
  rw [tb_iff HF.out]
  rfl
end
section
open Go.RowKit Go.Maps
open Go.Lib (itoa)

theorem step_store_row {P : Program} {ops : Array Oper} {o : Oper} {a : Act} {w : World} {K : Act → World → Prop} {Q : Exit → Act → World → Prop} {E : Prop} (hw : Region.wanted o (yielded ops a.tmps) = true) (ty : TypeId) (x y : Operand) (ho : o.op = .store ty x y)
    (g : Nat) (cells : Array Value) (hx : a.eval x = .pointer (some ⟨g, 0, none⟩)) (hy : a.eval y = .agg cells) (t : TypeId) (old : Array Value) (hg : w.heap[g]? = some (.cells old t (0, 0))) (hi : (P.info? ty).map (·.size) = some cells.size) (hold : old.size = cells.size) (h1 : cells.all (·.oneCell') = true)
    (h : K (a.put o.dst undef) (w.setRow g cells)) : if Region.wanted o (yielded ops a.tmps) = true then Oper.wp P o a w K Q else E := by
  rw [if_pos hw]
  exact wp_store_row ty x y ho g cells hx hy t old hg hi hold h1 h
/-- the text of an event as far as its kind. -/
def preE (t k : Int) : Wd := itoa t ++ 32 :: evN k
theorem preE_len {t k : Int} (ht : Is64 t) (h1 : 1 ≤ k) (h2 : k ≤ 13) : (preE t k).length ≤ 60 := by
  unfold preE
  have := itoa_len ht
  have h3 := int_13 (P := fun k => (evN k).length ≤ 20) (by decide) h1 h2
  rw [List.length_append, List.length_cons]
  omega
theorem evT_pre {e : EvC} {k : Int} (hk : e.kind = k) : evT e = preE e.tick k ++ spW ((evF k).flatMap (eW e)) := by
  subst hk
  unfold evT evW preE
  rw [spW_line, List.append_assoc]
  rfl
set_option maxRecDepth 100000 in
theorem text51_no (a : EvM) (w : World) (hat : EvAt w w.heap.size a) (hl : ActL a.act) (hok : ¬ EvOk a.con) : Calls Tryz.prog 14 #[evV a] w fun e w' => FmtR (EvOk a.con) (evT a.con) e ∧ Below w.heap.size w w' := by
  obtain ⟨C, hC⟩ : ∃ C, C = (evCs a).toArray := ⟨_, rfl⟩
  have hv : evV a = .agg C := by rw [hC]; rfl
  have hsz : (Tryz.prog.info? 35).map (·.size) = some C.size := by rw [hC]; exact ev_size
  obtain ⟨W1, hW1⟩ : ∃ W1, W1 = w.alloc (.cells C 35) := ⟨_, rfl⟩
  have hrow := new_obj w (.cells C 35)
  have hb1 : Below w.heap.size w W1 := by rw [hW1]; exact below_new _ _
  have HRA := Lib.hid (right_any a W1 (hat.next hb1) hl)
  rw [tb_false hok] at HRA
  have HB1 := Lib.hid (And.intro hb1 hok)
  rw [hv] at HRA ⊢
  clear hC hv hb1 hok hat hl
  go_enter Tryz.func14, Tryz.ntmps14
  go_wp2_with ((with_reducible refine wpList_at 10 rfl ?_); refine wpList_load_row_g (by rfl) 35 (.tmp 1) rfl w.heap.size rfl 35 C (0, 0) _ hrow Tryz.underlying35 rfl hsz ?_)
  rw [← hW1]
  clear hrow hW1
  refine HRA.out.mono ?_
  rintro e X1 ⟨rfl, hb⟩
  have HX1 := Lib.hid hb
  clear hb HRA
  go_wp2_with fail
  go_ret2
  exact ⟨.inr (.inr ⟨HB1.out.2, rfl⟩), HB1.out.1.trans (HX1.out.mono HB1.out.1.size)⟩
set_option maxRecDepth 100000 in
set_option maxHeartbeats 40000000 in
theorem text51_yes (a : EvM) (w : World) (hat : EvAt w w.heap.size a) (hl : ActL a.act) (hR : EvR a.con) (hsz0 : actSize a.act.con ≤ 100000) (hbl : a.ebody.length ≤ 100000) (kk : Int) (hk : a.kind = kk) (hok : EvOk a.con) : Calls Tryz.prog 14 #[evV a] w fun e w' => FmtR (EvOk a.con) (evT a.con) e ∧ Below w.heap.size w w' := by
  have HKR : Hid (1 ≤ kk ∧ kk ≤ 13) := Lib.hid (by
    have h : 1 ≤ a.kind ∧ a.kind ≤ 13 := evN_in hok.1
    rw [hk] at h
    exact h)
  have HCS := Lib.hid (show kk = 1 ∨ kk = 2 ∨ kk = 3 ∨ kk = 4 ∨ kk = 5 ∨ kk = 6 ∨ kk = 7 ∨ kk = 8 ∨ kk = 9 ∨ kk = 10 ∨ kk = 11 ∨ kk = 12 ∨ kk = 13 by have := HKR.out; omega)
  obtain ⟨C, hC⟩ : ∃ C, C = (evCs a).toArray := ⟨_, rfl⟩
  have hv : evV a = .agg C := by rw [hC]; rfl
  have hsz : (Tryz.prog.info? 35).map (·.size) = some C.size := by rw [hC]; exact ev_size
  obtain ⟨W1, hW1⟩ : ∃ W1, W1 = w.alloc (.cells C 35) := ⟨_, rfl⟩
  have hrow := new_obj w (.cells C 35)
  have hb1 : Below w.heap.size w W1 := by rw [hW1]; exact below_new _ _
  have hlt1 : w.heap.size < W1.heap.size := by rw [hW1]; simp
  have hrow1 : W1.rangeAt w.heap.size 0 (evCs a) := fun j v hj => by
    rw [hW1, Lib.cell_of_heap hrow, hC]
    simpa using hj
  have HRG := Lib.hid (show ∀ w' : World, Below W1.heap.size W1 w' → w'.rangeAt w.heap.size 0 (evCs a) from fun w' hb j v hj => (hb.cell (p := ⟨w.heap.size, 0 + j, none⟩) hlt1).trans (hrow1 j v hj))
  have HRA := Lib.hid (right_any a W1 (hat.next hb1) hl)
  rw [tb_true hok] at HRA
  have HB1 := Lib.hid (And.intro hb1 (And.intro hat (And.intro hl (And.intro hR (And.intro hsz0 hbl)))))
  have HOK := Lib.hid hok
  have HK := Lib.hid hk
  have HCL := Lib.hid (show ∀ (j : Nat) (u : Value), (evCs a)[j]? = some u → ∀ X : World, Below W1.heap.size W1 X → X.cell? ⟨w.heap.size, j, none⟩ = some u from fun j u hj X hX => by have h := HRG.out X hX j u hj; simpa using h)
  have HC0 := Lib.hid (HCL.out 0 (.int .i64 kk) (by rw [← hk]; rfl))
  have HC1 := Lib.hid (HCL.out 1 (.int .i64 a.tick) rfl)
  have HC2 := Lib.hid (HCL.out 2 (.int .i64 a.who) rfl)
  have HRO := Lib.hid (show ∀ w' : World, Below W1.heap.size W1 w' → w'.rangeAt w.heap.size 9 [.int .i64 a.ord.unit, .int .i64 a.ord.epoch, .int .i64 a.ord.kind, .int .i64 a.ord.incident, .int .i64 a.ord.node] from fun w' hb => range_part (HRG.out w' hb) (fun j v hj => by
    match j, hj with
    | 0, hj => exact hj
    | 1, hj => exact hj
    | 2, hj => exact hj
    | 3, hj => exact hj
    | 4, hj => exact hj
    | j + 5, hj => simp at hj))
  have HRS := Lib.hid (show ∀ w' : World, Below W1.heap.size W1 w' → w'.rangeAt w.heap.size 14 [.int .i64 a.sta.unit, .int .i64 a.sta.seq, .int .i64 a.sta.state, .int .i64 a.sta.node, .int .i64 a.sta.epoch] from fun w' hb => range_part (HRG.out w' hb) (fun j v hj => by
    match j, hj with
    | 0, hj => exact hj
    | 1, hj => exact hj
    | 2, hj => exact hj
    | 3, hj => exact hj
    | 4, hj => exact hj
    | j + 5, hj => simp at hj))
  have HMI := Lib.hid (And.intro (show (Tryz.prog.info? 27).map (·.size) = some 5 by kernel_rfl) (And.intro (show (Tryz.prog.info? 29).map (·.size) = some 5 by kernel_rfl) (And.intro (show (#[.int .i64 a.ord.unit, .int .i64 a.ord.epoch, .int .i64 a.ord.kind, .int .i64 a.ord.incident, .int .i64 a.ord.node] : Array Value).all (·.oneCell') = true by simp [Value.oneCell']) (show (#[.int .i64 a.sta.unit, .int .i64 a.sta.seq, .int .i64 a.sta.state, .int .i64 a.sta.node, .int .i64 a.sta.epoch] : Array Value).all (·.oneCell') = true by simp [Value.oneCell']))))
  have HNM := Lib.hid (fun X : World => num51_any a.tick hR.tick X)
  have HEW := Lib.hid (fun X : World => evWord_any kk X)
  obtain ⟨s1, hs1⟩ : ∃ s, s = bs (itoa a.tick) := ⟨_, rfl⟩
  obtain ⟨s2, hs2⟩ : ∃ s, s = bs (evN kk) := ⟨_, rfl⟩
  have hl1 : s1.size ≤ 21 := by rw [hs1, bs_size]; exact itoa_len hR.tick
  have hl2 : s2.size ≤ 20 := by rw [hs2, bs_size]; exact int_13 (P := fun k => (evN k).length ≤ 20) (by decide) HKR.out.1 HKR.out.2
  rw [← hs1] at HNM
  rw [← hs2] at HEW
  have HS12 := Lib.hid (show s1 ++ ⟨#[32]⟩ ++ s2 = bs (preE a.tick kk) by rw [hs1, hs2, lit32, bs_append, bs_append, List.append_assoc]; rfl)
  rw [hv] at HRA ⊢
  clear hC hv hb1 hlt1 hrow1 hok hat hl hR hsz0 hbl hk hs1 hs2
  go_enter Tryz.func14, Tryz.ntmps14
  go_wp2_with ((with_reducible refine wpList_at 10 rfl ?_); refine wpList_load_row_g (by rfl) 35 (.tmp 1) rfl w.heap.size rfl 35 C (0, 0) _ hrow Tryz.underlying35 rfl hsz ?_)
  rw [← hW1]
  clear hrow hW1 hsz
  refine HRA.out.mono ?_
  rintro e X1 ⟨rfl, hb⟩
  have HX1 := Lib.hid hb
  clear hb HRA
  go_wp2_with fail
  have HHD := Lib.hid (show Below W1.heap.size W1 X1.drew from below_dr HX1.out 1)
  refine wp_region_held_drew (S := fun W' => Below W1.heap.size W1 W') (by kernel_rfl) HHD.out (fun hHeld => ?_)
  refine wpAnyH_take (i := 0) (v := .pointer (some ⟨w.heap.size, 1, none⟩)) rfl (by kernel_rfl) (by kernel_rfl) (by kernel_rfl) (fun _ _ _ h => h) (Or.inl ⟨by rfl, ?_⟩) (by assumption) ?_
  · intro w' hSw
    go_simp
  show wpAnyH _ _ _ _ _ _ _ (Act.put _ (some 13) _) _
  simp only [Act.put, List.setIfInBounds_toArray, List.set_cons_zero, List.set_cons_succ]
  refine wpAnyH_take (i := 1) (v := .int .i64 a.tick) rfl (by kernel_rfl) (by kernel_rfl) (by kernel_rfl) (fun _ _ _ h => h) (Or.inl ⟨by rfl, ?_⟩) (by assumption) ?_
  · intro w' hSw
    have hc := HC1.out w' hSw
    go_simp
  show wpAnyH _ _ _ _ _ _ _ (Act.put _ (some 14) _) _
  simp only [Act.put, List.setIfInBounds_toArray, List.set_cons_zero, List.set_cons_succ]
  refine wpAnyH_take (i := 4) (v := .pointer (some ⟨w.heap.size, 0, none⟩)) rfl (by kernel_rfl) (by kernel_rfl) (by kernel_rfl) (fun _ _ _ h => h) (Or.inl ⟨by rfl, ?_⟩) (by assumption) ?_
  · intro w' hSw
    go_simp
  show wpAnyH _ _ _ _ _ _ _ (Act.put _ (some 17) _) _
  simp only [Act.put, List.setIfInBounds_toArray, List.set_cons_zero, List.set_cons_succ]
  refine wpAnyH_take (i := 5) (v := .int .i64 kk) rfl (by kernel_rfl) (by kernel_rfl) (by kernel_rfl) (fun _ _ _ h => h) (Or.inl ⟨by rfl, ?_⟩) (by assumption) ?_
  · intro w' hSw
    have hc := HC0.out w' hSw
    go_simp
  show wpAnyH _ _ _ _ _ _ _ (Act.put _ (some 18) _) _
  simp only [Act.put, List.setIfInBounds_toArray, List.set_cons_zero, List.set_cons_succ]
  refine wpAnyH_ready (rs := [2]) (by kernel_rfl) (by simp) ?_
  refine AllReadyH.cons rfl (fun K hK => ?_) AllReadyH.nil
  go_simp
  refine (HNM.out _).mono ?_
  rintro e Y1 ⟨rfl, hy1⟩
  go_simp
  have hY1 := hHeld.trans (hy1.mono hHeld.size)
  clear hy1
  refine hK.out _ _ hY1 (fun hHeld => ?_)
  clear hK K
  refine wpAnyH_take (i := 3) (v := .string (s1 ++ ⟨#[32]⟩)) rfl (by kernel_rfl) (by kernel_rfl) (by kernel_rfl) (fun _ _ _ h => h) (Or.inl ⟨by rfl, ?_⟩) (by assumption) ?_
  · intro w' hSw
    go_simp
    omega
  show wpAnyH _ _ _ _ _ _ _ (Act.put _ (some 16) _) _
  simp only [Act.put, List.setIfInBounds_toArray, List.set_cons_zero, List.set_cons_succ]
  refine wpAnyH_ready (rs := [6]) (by kernel_rfl) (by simp) ?_
  refine AllReadyH.cons rfl (fun K hK => ?_) AllReadyH.nil
  go_simp
  refine (HEW.out _).mono ?_
  rintro e Y2 ⟨rfl, hy2⟩
  go_simp
  have hY2 := hY1.trans (hy2.mono hY1.size)
  clear hy2
  refine hK.out _ _ hY2 (fun hHeld => ?_)
  clear hK K
  refine wpAnyH_take (i := 7) (v := .string (s1 ++ ⟨#[32]⟩ ++ s2)) rfl (by kernel_rfl) (by kernel_rfl) (by kernel_rfl) (fun _ _ _ h => h) (Or.inl ⟨by rfl, ?_⟩) (by assumption) ?_
  · intro w' hSw
    go_simp
    omega
  show wpAnyH _ _ _ _ _ _ _ (Act.put _ (some 20) _) _
  simp only [Act.put, List.setIfInBounds_toArray, List.set_cons_zero, List.set_cons_succ]
  refine wpAnyH_take (i := 8) (v := .string (s1 ++ ⟨#[32]⟩ ++ s2)) rfl (by kernel_rfl) (by kernel_rfl) (by kernel_rfl) (fun _ _ _ h => h) (Or.inl ⟨by rfl, ?_⟩) (by assumption) ?_
  · intro w' hSw
    go_simp
  show wpAnyH _ _ _ _ _ _ _ (Act.put _ (some 4) _) _
  simp only [Act.put, List.setIfInBounds_toArray, List.set_cons_zero, List.set_cons_succ]
  refine wpAnyH_done (by kernel_rfl) ?_ _
  have HY2 := Lib.hid hY2
  obtain ⟨S, hS⟩ : ∃ S, S = s1 ++ ⟨#[32]⟩ ++ s2 := ⟨_, rfl⟩
  have HS := Lib.hid (hS.trans HS12.out)
  have hSl : S.size ≤ 60 := by rw [HS.out, bs_size]; exact preE_len HB1.out.2.2.2.1.tick HKR.out.1 HKR.out.2
  rw [← hS]
  clear hS hHeld hY1 hY2 hl1 hl2 HS12 HNM HEW HHD HX1
  go_wp2_with fail
  have HHD := Lib.hid (show Below W1.heap.size W1 Y2.drew from below_dr HY2.out 1)
  refine wp_region_held_drew (S := fun W' => Below W1.heap.size W1 W') (by kernel_rfl) HHD.out (fun hHeld => ?_)
  obtain ⟨V, hV⟩ : ∃ V, V = World.drew Y2 := ⟨_, rfl⟩
  rw [← hV] at hHeld ⊢
  clear hV HHD
  have HHD := Lib.hid hHeld
  refine wpAnyH_take (i := 0) (v := .pointer (some ⟨w.heap.size, 2, none⟩)) rfl (by kernel_rfl) (by kernel_rfl) (by kernel_rfl) (fun _ _ _ h => h) (Or.inl ⟨by rfl, ?_⟩) (by assumption) ?_
  · intro w' hSw
    go_simp
  show wpAnyH _ _ _ _ _ _ _ (Act.put _ (some 21) _) _
  simp only [Act.put, List.setIfInBounds_toArray, List.set_cons_zero, List.set_cons_succ]
  refine wpAnyH_take (i := 1) (v := .int .i64 a.who) rfl (by kernel_rfl) (by kernel_rfl) (by kernel_rfl) (fun _ _ _ h => h) (Or.inl ⟨by rfl, ?_⟩) (by assumption) ?_
  · intro w' hSw
    have hc := HC2.out w' hSw
    go_simp
  show wpAnyH _ _ _ _ _ _ _ (Act.put _ (some 22) _) _
  simp only [Act.put, List.setIfInBounds_toArray, List.set_cons_zero, List.set_cons_succ]
  refine wpAnyH_take (i := 2) (v := .pointer (some ⟨w.heap.size, 9, none⟩)) rfl (by kernel_rfl) (by kernel_rfl) (by kernel_rfl) (fun _ _ _ h => h) (Or.inl ⟨by rfl, ?_⟩) (by assumption) ?_
  · intro w' hSw
    go_simp
  show wpAnyH _ _ _ _ _ _ _ (Act.put _ (some 23) _) _
  simp only [Act.put, List.setIfInBounds_toArray, List.set_cons_zero, List.set_cons_succ]
  refine wpAnyH_take (i := 3) (v := .agg #[.int .i64 a.ord.unit, .int .i64 a.ord.epoch, .int .i64 a.ord.kind, .int .i64 a.ord.incident, .int .i64 a.ord.node]) rfl (by kernel_rfl) (by kernel_rfl) (by kernel_rfl) (fun _ _ _ h => h) (yieldsIf_load_mid (by rfl) 27 (.tmp 23) rfl w.heap.size 9 rfl [.int .i64 a.ord.unit, .int .i64 a.ord.epoch, .int .i64 a.ord.kind, .int .i64 a.ord.incident, .int .i64 a.ord.node] _ (fun w' hSw => HRO.out w' hSw) Tryz.underlying27 rfl HMI.out.1) (by assumption) ?_
  show wpAnyH _ _ _ _ _ _ _ (Act.put _ (some 24) _) _
  simp only [Act.put, List.setIfInBounds_toArray, List.set_cons_zero, List.set_cons_succ]
  refine wpAnyH_take (i := 4) (v := .pointer (some ⟨w.heap.size, 14, none⟩)) rfl (by kernel_rfl) (by kernel_rfl) (by kernel_rfl) (fun _ _ _ h => h) (Or.inl ⟨by rfl, ?_⟩) (by assumption) ?_
  · intro w' hSw
    go_simp
  show wpAnyH _ _ _ _ _ _ _ (Act.put _ (some 25) _) _
  simp only [Act.put, List.setIfInBounds_toArray, List.set_cons_zero, List.set_cons_succ]
  refine wpAnyH_take (i := 5) (v := .agg #[.int .i64 a.sta.unit, .int .i64 a.sta.seq, .int .i64 a.sta.state, .int .i64 a.sta.node, .int .i64 a.sta.epoch]) rfl (by kernel_rfl) (by kernel_rfl) (by kernel_rfl) (fun _ _ _ h => h) (yieldsIf_load_mid (by rfl) 29 (.tmp 25) rfl w.heap.size 14 rfl [.int .i64 a.sta.unit, .int .i64 a.sta.seq, .int .i64 a.sta.state, .int .i64 a.sta.node, .int .i64 a.sta.epoch] _ (fun w' hSw => HRS.out w' hSw) Tryz.underlying29 rfl HMI.out.2.1) (by assumption) ?_
  show wpAnyH _ _ _ _ _ _ _ (Act.put _ (some 26) _) _
  simp only [Act.put, List.setIfInBounds_toArray, List.set_cons_zero, List.set_cons_succ]
  refine wpAnyH_ready (rs := [6, 7]) (by kernel_rfl) (by simp) ?_
  refine AllReadyH.cons rfl (fun K hK => ?_) (AllReadyH.cons rfl (fun K hK => ?_) AllReadyH.nil)
  go_simp
  have hY3 := hHeld.trans ((below_new V (.cells #[.int .i64 0, .int .i64 0, .int .i64 0, .int .i64 0, .int .i64 0] 27)).mono hHeld.size)
  refine hK.out _ _ hY3 (fun hHeld => ?_)
  clear hK K
  refine wpAnyH_ready (rs := [7]) (by kernel_rfl) (by simp) ?_
  refine AllReadyH.cons rfl (fun K hK => ?_) AllReadyH.nil
  go_simp
  have hY4 := hY3.trans ((below_new (V.alloc (.cells #[.int .i64 0, .int .i64 0, .int .i64 0, .int .i64 0, .int .i64 0] 27)) (.cells #[.int .i64 0, .int .i64 0, .int .i64 0, .int .i64 0, .int .i64 0] 29)).mono hY3.size)
  refine hK.out _ _ hY4 (fun hHeld => ?_)
  clear hK K
  refine wpAnyH_take (i := 8) (v := .int .i64 a.who) rfl (by kernel_rfl) (by kernel_rfl) (by kernel_rfl) (fun _ _ _ h => h) (Or.inl ⟨by rfl, ?_⟩) (by assumption) ?_
  · intro w' hSw
    go_simp
  show wpAnyH _ _ _ _ _ _ _ (Act.put _ (some 5) _) _
  simp only [Act.put, List.setIfInBounds_toArray, List.set_cons_zero, List.set_cons_succ]
  have hbk := two_blk V [.int .i64 0, .int .i64 0, .int .i64 0, .int .i64 0, .int .i64 0] [.int .i64 0, .int .i64 0, .int .i64 0, .int .i64 0, .int .i64 0] 27 29
  refine wpAnyH_ready (rs := [9]) (by kernel_rfl) (by simp) ?_
  refine AllReadyH.cons rfl (fun K hK => ?_) AllReadyH.nil
  refine step_store_row (by rfl) 27 (.tmp 6) (.tmp 24) rfl V.heap.size #[.int .i64 a.ord.unit, .int .i64 a.ord.epoch, .int .i64 a.ord.kind, .int .i64 a.ord.incident, .int .i64 a.ord.node] rfl rfl 27 _ hbk.1 HMI.out.1 rfl HMI.out.2.2.1 ?_
  have hY5 : Below W1.heap.size W1 (((V.alloc (.cells #[.int .i64 0, .int .i64 0, .int .i64 0, .int .i64 0, .int .i64 0] 27)).alloc (.cells #[.int .i64 0, .int .i64 0, .int .i64 0, .int .i64 0, .int .i64 0] 29)).setRow V.heap.size #[.int .i64 a.ord.unit, .int .i64 a.ord.epoch, .int .i64 a.ord.kind, .int .i64 a.ord.incident, .int .i64 a.ord.node]) := below_setR hY4 (by have := HHD.out.size; omega) _
  refine hK.out _ _ hY5 (fun hHeld => ?_)
  clear hK K
  refine wpAnyH_ready (rs := [10]) (by kernel_rfl) (by simp) ?_
  refine AllReadyH.cons rfl (fun K hK => ?_) AllReadyH.nil
  refine step_store_row (by rfl) 29 (.tmp 7) (.tmp 26) rfl (V.heap.size + 1) #[.int .i64 a.sta.unit, .int .i64 a.sta.seq, .int .i64 a.sta.state, .int .i64 a.sta.node, .int .i64 a.sta.epoch] rfl rfl 29 _ ((setRow_other _ _ _ _ (by omega)).trans hbk.2) HMI.out.2.1 rfl HMI.out.2.2.2 ?_
  have hY6 : Below W1.heap.size W1 ((((V.alloc (.cells #[.int .i64 0, .int .i64 0, .int .i64 0, .int .i64 0, .int .i64 0] 27)).alloc (.cells #[.int .i64 0, .int .i64 0, .int .i64 0, .int .i64 0, .int .i64 0] 29)).setRow V.heap.size #[.int .i64 a.ord.unit, .int .i64 a.ord.epoch, .int .i64 a.ord.kind, .int .i64 a.ord.incident, .int .i64 a.ord.node]).setRow (V.heap.size + 1) #[.int .i64 a.sta.unit, .int .i64 a.sta.seq, .int .i64 a.sta.state, .int .i64 a.sta.node, .int .i64 a.sta.epoch]) := below_setR hY5 (by have := HHD.out.size; omega) _
  refine hK.out _ _ hY6 (fun hHeld => ?_)
  clear hK K
  refine wpAnyH_done (by kernel_rfl) ?_ _
  simp only [Act.put, List.setIfInBounds_toArray]
  have HZ := Lib.hid (show Blk ((((V.alloc (.cells #[.int .i64 0, .int .i64 0, .int .i64 0, .int .i64 0, .int .i64 0] 27)).alloc (.cells #[.int .i64 0, .int .i64 0, .int .i64 0, .int .i64 0, .int .i64 0] 29)).setRow V.heap.size #[.int .i64 a.ord.unit, .int .i64 a.ord.epoch, .int .i64 a.ord.kind, .int .i64 a.ord.incident, .int .i64 a.ord.node]).setRow (V.heap.size + 1) #[.int .i64 a.sta.unit, .int .i64 a.sta.seq, .int .i64 a.sta.state, .int .i64 a.sta.node, .int .i64 a.sta.epoch]) V.heap.size 27 [.int .i64 a.ord.unit, .int .i64 a.ord.epoch, .int .i64 a.ord.kind, .int .i64 a.ord.incident, .int .i64 a.ord.node] ∧ Blk ((((V.alloc (.cells #[.int .i64 0, .int .i64 0, .int .i64 0, .int .i64 0, .int .i64 0] 27)).alloc (.cells #[.int .i64 0, .int .i64 0, .int .i64 0, .int .i64 0, .int .i64 0] 29)).setRow V.heap.size #[.int .i64 a.ord.unit, .int .i64 a.ord.epoch, .int .i64 a.ord.kind, .int .i64 a.ord.incident, .int .i64 a.ord.node]).setRow (V.heap.size + 1) #[.int .i64 a.sta.unit, .int .i64 a.sta.seq, .int .i64 a.sta.state, .int .i64 a.sta.node, .int .i64 a.sta.epoch]) (V.heap.size + 1) 29 [.int .i64 a.sta.unit, .int .i64 a.sta.seq, .int .i64 a.sta.state, .int .i64 a.sta.node, .int .i64 a.sta.epoch] ∧ Below W1.heap.size W1 ((((V.alloc (.cells #[.int .i64 0, .int .i64 0, .int .i64 0, .int .i64 0, .int .i64 0] 27)).alloc (.cells #[.int .i64 0, .int .i64 0, .int .i64 0, .int .i64 0, .int .i64 0] 29)).setRow V.heap.size #[.int .i64 a.ord.unit, .int .i64 a.ord.epoch, .int .i64 a.ord.kind, .int .i64 a.ord.incident, .int .i64 a.ord.node]).setRow (V.heap.size + 1) #[.int .i64 a.sta.unit, .int .i64 a.sta.seq, .int .i64 a.sta.state, .int .i64 a.sta.node, .int .i64 a.sta.epoch]) from ⟨(setRow_other _ _ _ _ (by omega)).trans (setRow_heap _ _ _ _ _ _ hbk.1), setRow_heap _ _ _ _ _ _ ((setRow_other _ _ _ _ (by omega)).trans hbk.2), hY6⟩)
  obtain ⟨Z, hZ⟩ : ∃ Z, Z = (((V.alloc (.cells #[.int .i64 0, .int .i64 0, .int .i64 0, .int .i64 0, .int .i64 0] 27)).alloc (.cells #[.int .i64 0, .int .i64 0, .int .i64 0, .int .i64 0, .int .i64 0] 29)).setRow V.heap.size #[.int .i64 a.ord.unit, .int .i64 a.ord.epoch, .int .i64 a.ord.kind, .int .i64 a.ord.incident, .int .i64 a.ord.node]).setRow (V.heap.size + 1) #[.int .i64 a.sta.unit, .int .i64 a.sta.seq, .int .i64 a.sta.state, .int .i64 a.sta.node, .int .i64 a.sta.epoch] := ⟨_, rfl⟩
  rw [← hZ] at HZ ⊢
  obtain ⟨ob, hob⟩ : ∃ ob, ob = V.heap.size := ⟨_, rfl⟩
  obtain ⟨tb2, htb⟩ : ∃ tb, tb = (V.heap.size + 1) := ⟨_, rfl⟩
  rw [← htb, ← hob] at HZ ⊢
  clear hZ hbk hY3 hY4 hY5 hY6 hHeld hob htb
  have hp0 := HC0.out Z HZ.out.2.2
  rotate_left
  go_simp
  have hY3 := hHeld.trans ((below_new V (.cells #[.int .i64 0, .int .i64 0, .int .i64 0, .int .i64 0, .int .i64 0] 29)).mono hHeld.size)
  refine hK.out _ _ hY3 (fun hHeld => ?_)
  clear hK K
  refine wpAnyH_ready (rs := [6]) (by kernel_rfl) (by simp) ?_
  refine AllReadyH.cons rfl (fun K hK => ?_) AllReadyH.nil
  go_simp
  have hY4 := hY3.trans ((below_new (V.alloc (.cells #[.int .i64 0, .int .i64 0, .int .i64 0, .int .i64 0, .int .i64 0] 29)) (.cells #[.int .i64 0, .int .i64 0, .int .i64 0, .int .i64 0, .int .i64 0] 27)).mono hY3.size)
  refine hK.out _ _ hY4 (fun hHeld => ?_)
  clear hK K
  refine wpAnyH_take (i := 8) (v := .int .i64 a.who) rfl (by kernel_rfl) (by kernel_rfl) (by kernel_rfl) (fun _ _ _ h => h) (Or.inl ⟨by rfl, ?_⟩) (by assumption) ?_
  · intro w' hSw
    go_simp
  show wpAnyH _ _ _ _ _ _ _ (Act.put _ (some 5) _) _
  simp only [Act.put, List.setIfInBounds_toArray, List.set_cons_zero, List.set_cons_succ]
  have hbk := two_blk V [.int .i64 0, .int .i64 0, .int .i64 0, .int .i64 0, .int .i64 0] [.int .i64 0, .int .i64 0, .int .i64 0, .int .i64 0, .int .i64 0] 29 27
  refine wpAnyH_ready (rs := [9]) (by kernel_rfl) (by simp) ?_
  refine AllReadyH.cons rfl (fun K hK => ?_) AllReadyH.nil
  refine step_store_row (by rfl) 27 (.tmp 6) (.tmp 24) rfl (V.heap.size + 1) #[.int .i64 a.ord.unit, .int .i64 a.ord.epoch, .int .i64 a.ord.kind, .int .i64 a.ord.incident, .int .i64 a.ord.node] rfl rfl 27 _ hbk.2 HMI.out.1 rfl HMI.out.2.2.1 ?_
  have hY5 : Below W1.heap.size W1 (((V.alloc (.cells #[.int .i64 0, .int .i64 0, .int .i64 0, .int .i64 0, .int .i64 0] 29)).alloc (.cells #[.int .i64 0, .int .i64 0, .int .i64 0, .int .i64 0, .int .i64 0] 27)).setRow (V.heap.size + 1) #[.int .i64 a.ord.unit, .int .i64 a.ord.epoch, .int .i64 a.ord.kind, .int .i64 a.ord.incident, .int .i64 a.ord.node]) := below_setR hY4 (by have := HHD.out.size; omega) _
  refine hK.out _ _ hY5 (fun hHeld => ?_)
  clear hK K
  refine wpAnyH_ready (rs := [10]) (by kernel_rfl) (by simp) ?_
  refine AllReadyH.cons rfl (fun K hK => ?_) AllReadyH.nil
  refine step_store_row (by rfl) 29 (.tmp 7) (.tmp 26) rfl V.heap.size #[.int .i64 a.sta.unit, .int .i64 a.sta.seq, .int .i64 a.sta.state, .int .i64 a.sta.node, .int .i64 a.sta.epoch] rfl rfl 29 _ ((setRow_other _ _ _ _ (by omega)).trans hbk.1) HMI.out.2.1 rfl HMI.out.2.2.2 ?_
  have hY6 : Below W1.heap.size W1 ((((V.alloc (.cells #[.int .i64 0, .int .i64 0, .int .i64 0, .int .i64 0, .int .i64 0] 29)).alloc (.cells #[.int .i64 0, .int .i64 0, .int .i64 0, .int .i64 0, .int .i64 0] 27)).setRow (V.heap.size + 1) #[.int .i64 a.ord.unit, .int .i64 a.ord.epoch, .int .i64 a.ord.kind, .int .i64 a.ord.incident, .int .i64 a.ord.node]).setRow V.heap.size #[.int .i64 a.sta.unit, .int .i64 a.sta.seq, .int .i64 a.sta.state, .int .i64 a.sta.node, .int .i64 a.sta.epoch]) := below_setR hY5 (by have := HHD.out.size; omega) _
  refine hK.out _ _ hY6 (fun hHeld => ?_)
  clear hK K
  refine wpAnyH_done (by kernel_rfl) ?_ _
  simp only [Act.put, List.setIfInBounds_toArray]
  have HZ := Lib.hid (show Blk ((((V.alloc (.cells #[.int .i64 0, .int .i64 0, .int .i64 0, .int .i64 0, .int .i64 0] 29)).alloc (.cells #[.int .i64 0, .int .i64 0, .int .i64 0, .int .i64 0, .int .i64 0] 27)).setRow (V.heap.size + 1) #[.int .i64 a.ord.unit, .int .i64 a.ord.epoch, .int .i64 a.ord.kind, .int .i64 a.ord.incident, .int .i64 a.ord.node]).setRow V.heap.size #[.int .i64 a.sta.unit, .int .i64 a.sta.seq, .int .i64 a.sta.state, .int .i64 a.sta.node, .int .i64 a.sta.epoch]) (V.heap.size + 1) 27 [.int .i64 a.ord.unit, .int .i64 a.ord.epoch, .int .i64 a.ord.kind, .int .i64 a.ord.incident, .int .i64 a.ord.node] ∧ Blk ((((V.alloc (.cells #[.int .i64 0, .int .i64 0, .int .i64 0, .int .i64 0, .int .i64 0] 29)).alloc (.cells #[.int .i64 0, .int .i64 0, .int .i64 0, .int .i64 0, .int .i64 0] 27)).setRow (V.heap.size + 1) #[.int .i64 a.ord.unit, .int .i64 a.ord.epoch, .int .i64 a.ord.kind, .int .i64 a.ord.incident, .int .i64 a.ord.node]).setRow V.heap.size #[.int .i64 a.sta.unit, .int .i64 a.sta.seq, .int .i64 a.sta.state, .int .i64 a.sta.node, .int .i64 a.sta.epoch]) V.heap.size 29 [.int .i64 a.sta.unit, .int .i64 a.sta.seq, .int .i64 a.sta.state, .int .i64 a.sta.node, .int .i64 a.sta.epoch] ∧ Below W1.heap.size W1 ((((V.alloc (.cells #[.int .i64 0, .int .i64 0, .int .i64 0, .int .i64 0, .int .i64 0] 29)).alloc (.cells #[.int .i64 0, .int .i64 0, .int .i64 0, .int .i64 0, .int .i64 0] 27)).setRow (V.heap.size + 1) #[.int .i64 a.ord.unit, .int .i64 a.ord.epoch, .int .i64 a.ord.kind, .int .i64 a.ord.incident, .int .i64 a.ord.node]).setRow V.heap.size #[.int .i64 a.sta.unit, .int .i64 a.sta.seq, .int .i64 a.sta.state, .int .i64 a.sta.node, .int .i64 a.sta.epoch]) from ⟨(setRow_other _ _ _ _ (by omega)).trans (setRow_heap _ _ _ _ _ _ hbk.2), setRow_heap _ _ _ _ _ _ ((setRow_other _ _ _ _ (by omega)).trans hbk.1), hY6⟩)
  obtain ⟨Z, hZ⟩ : ∃ Z, Z = (((V.alloc (.cells #[.int .i64 0, .int .i64 0, .int .i64 0, .int .i64 0, .int .i64 0] 29)).alloc (.cells #[.int .i64 0, .int .i64 0, .int .i64 0, .int .i64 0, .int .i64 0] 27)).setRow (V.heap.size + 1) #[.int .i64 a.ord.unit, .int .i64 a.ord.epoch, .int .i64 a.ord.kind, .int .i64 a.ord.incident, .int .i64 a.ord.node]).setRow V.heap.size #[.int .i64 a.sta.unit, .int .i64 a.sta.seq, .int .i64 a.sta.state, .int .i64 a.sta.node, .int .i64 a.sta.epoch] := ⟨_, rfl⟩
  rw [← hZ] at HZ ⊢
  obtain ⟨ob, hob⟩ : ∃ ob, ob = (V.heap.size + 1) := ⟨_, rfl⟩
  obtain ⟨tb2, htb⟩ : ∃ tb, tb = V.heap.size := ⟨_, rfl⟩
  rw [← hob, ← htb] at HZ ⊢
  clear hZ hbk hY3 hY4 hY5 hY6 hHeld hob htb
  have hp0 := HC0.out Z HZ.out.2.2
  rotate_left
  all_goals (
    rcases HCS.out with rfl | rfl | rfl | rfl | rfl | rfl | rfl | rfl | rfl | rfl | rfl | rfl | rfl
    · have HAC := Lib.hid (act51_any a.act Z ((HB1.out.2.1.act.below (HB1.out.1.trans (HZ.out.2.2.mono HB1.out.1.size))).more (HB1.out.1.trans (HZ.out.2.2.mono HB1.out.1.size)).size) HB1.out.2.2.1 HB1.out.2.2.2.1.act HB1.out.2.2.2.2.1)
      rw [show actV a.act = .agg (actCs a.act).toArray from rfl] at HAC
      have HRAC := Lib.hid (show Z.rangeAt w.heap.size 19 (actCs a.act) from range_part (HRG.out Z HZ.out.2.2) (fun j v hj => by
        match j, hj with
        | 0, hj => exact hj
        | 1, hj => exact hj
        | 2, hj => exact hj
        | 3, hj => exact hj
        | 4, hj => exact hj
        | 5, hj => exact hj
        | 6, hj => exact hj
        | 7, hj => exact hj
        | j + 8, hj => simp [actCs] at hj))
      have HASZ := Lib.hid (show (Tryz.prog.info? 33).map (·.size) = some (actCs a.act).length from act_size)
      have HAOK := Lib.hid (show ActOk a.act.con from ((ev_ok a.con).1 HOK.out).2.2.2 HK.out)
      have HEV := Lib.hid (show evT a.con = preE a.tick 1 ++ 32 :: actT a.act.con by
        rw [evT_pre (show a.con.kind = 1 from HK.out), show (evF 1).flatMap (eW a.con) = actW a.act.con from List.append_nil _]
        rfl)
      obtain ⟨AL, hAL⟩ : ∃ AL, AL = actCs a.act := ⟨_, rfl⟩
      rw [← hAL] at HAC HRAC HASZ
      clear hAL
      go_wp2_with ((with_reducible refine wpList_at 33 rfl ?_); refine wpList_load_mid rfl 33 (.tmp 32) rfl w.heap.size 19 rfl AL _ HRAC.out Tryz.underlying33 rfl HASZ.out ?_)
      refine HAC.out.mono ?_
      rintro e X3 ⟨hf, hb⟩
      have HBX := Lib.hid (HB1.out.1.trans ((HZ.out.2.2.trans (hb.mono HZ.out.2.2.size)).mono HB1.out.1.size))
      clear hb
      rcases hf with ⟨_, hal, rfl⟩ | ⟨_, hal, rfl⟩ | ⟨hno, _⟩
      · obtain ⟨T, hT⟩ : ∃ T, T = bs (actT a.act.con) := ⟨_, rfl⟩
        have hTl : T.size ≤ 65536 := by rw [hT, bs_size]; exact hal
        have HE : Hid (S ++ ⟨#[32]⟩ ++ T = bs (evT a.con)) := Lib.hid (by rw [HS.out, hT, lit32, bs_append, bs_append, HEV.out, List.append_assoc]; rfl)
        have HSZ : Hid (S.size + 1 + T.size = (evT a.con).length) := Lib.hid (by rw [← bs_size, ← HE.out, ByteArray.size_append, ByteArray.size_append]; rfl)
        rw [← hT]
        clear hT hal
        have h32 : (⟨#[32]⟩ : ByteArray).size = 1 := rfl
        by_cases hlen : (evT a.con).length ≤ 65536
        · have d1 : decide ((65536 : Int) < ((S.size : Int) + 1 + (T.size : Int))) = false := decide_eq_false (by have := HSZ.out; omega)
          have HLEN := Lib.hid hlen
          clear hlen
          go_wp2_with fail
          go_ret2
          refine ⟨.inl ⟨HOK.out, HLEN.out, ?_⟩, HBX.out⟩
          rw [← HE.out]
          rfl
        · have d1 : decide ((65536 : Int) < ((S.size : Int) + 1 + (T.size : Int))) = true := decide_eq_true (by have := HSZ.out; omega)
          have HLEN := Lib.hid (show 65536 < (evT a.con).length by omega)
          clear hlen
          go_wp2_with fail
          go_ret2
          exact ⟨.inr (.inl ⟨HOK.out, HLEN.out, rfl⟩), HBX.out⟩
      · have HLEN := Lib.hid (show 65536 < (evT a.con).length by rw [HEV.out, List.length_append, List.length_cons]; omega)
        clear hal
        go_wp2_with fail
        go_ret2
        exact ⟨.inr (.inl ⟨HOK.out, HLEN.out, rfl⟩), HBX.out⟩
      · exact absurd HAOK.out hno
    · have hp3 := HCL.out 3 (.int .i64 a.call) rfl Z HZ.out.2.2
      have H64 : Hid (∀ v ∈ ([a.call, a.who] : List Int), Is64 v) := Lib.hid (fun v hv => by
        simp only [List.mem_cons, List.mem_nil_iff, or_false] at hv
        rcases hv with rfl | rfl
        · exact HB1.out.2.2.2.1.call
        · exact HB1.out.2.2.2.1.who)
      have HNS := Lib.hid (nums51_any [a.call, a.who] H64.out (by simp) (some ⟨Z.heap.size, 0, none⟩) 2 (Z.alloc (.cells #[.int .i64 a.call, .int .i64 a.who] 2)) (Sl.lit Z _ 2 rfl))
      obtain ⟨T, hT⟩ : ∃ T, T = bs (spW (([a.call, a.who] : List Int).map itoa)) := ⟨_, rfl⟩
      have HT := Lib.hid hT
      have hTl : T.size ≤ 140 := by
        have h := spW_len (ints_len (l := [a.call, a.who]) H64.out)
        rw [hT, bs_size]
        exact Nat.le_trans h (by simp)
      have HB3 := Lib.hid (below_new Z (.cells #[.int .i64 a.call, .int .i64 a.who] 2))
      rw [← hT] at HNS
      have HE : Hid (S ++ T = bs (evT a.con)) := Lib.hid (by
        rw [HS.out, HT.out, bs_append, evT_pre (show a.con.kind = 2 from HK.out)]
        rfl)
      have HSZ : Hid (S.size + T.size = (evT a.con).length) := Lib.hid (by rw [← bs_size, ← HE.out, ByteArray.size_append])
      clear hT
      go_wp2_with fail
      refine HNS.out.mono ?_
      rintro e X3 ⟨rfl, hb⟩
      have HBX := Lib.hid (HB1.out.1.trans ((HZ.out.2.2.trans ((HB3.out.trans (hb.mono HB3.out.size)).mono HZ.out.2.2.size)).mono HB1.out.1.size))
      clear hb
      have hlen : (evT a.con).length ≤ 65536 := by have := HSZ.out; omega
      have d1 : decide ((65536 : Int) < ((S.size + T.size : Nat) : Int)) = false := decide_eq_false (by have := HSZ.out; omega)
      have HLEN := Lib.hid hlen
      clear hlen
      go_wp2_with fail
      go_ret2
      refine ⟨.inl ⟨HOK.out, HLEN.out, ?_⟩, HBX.out⟩
      rw [← HE.out]
      rfl
    · have hp3 := HCL.out 3 (.int .i64 a.call) rfl Z HZ.out.2.2
      have hp4 := HCL.out 4 (.int .i64 a.epoch) rfl Z HZ.out.2.2
      have H64 : Hid (∀ v ∈ ([a.call, a.who, a.epoch] : List Int), Is64 v) := Lib.hid (fun v hv => by
        simp only [List.mem_cons, List.mem_nil_iff, or_false] at hv
        rcases hv with rfl | rfl | rfl
        · exact HB1.out.2.2.2.1.call
        · exact HB1.out.2.2.2.1.who
        · exact HB1.out.2.2.2.1.epoch)
      have HNS := Lib.hid (nums51_any [a.call, a.who, a.epoch] H64.out (by simp) (some ⟨Z.heap.size, 0, none⟩) 3 (Z.alloc (.cells #[.int .i64 a.call, .int .i64 a.who, .int .i64 a.epoch] 2)) (Sl.lit Z _ 2 rfl))
      obtain ⟨T, hT⟩ : ∃ T, T = bs (spW (([a.call, a.who, a.epoch] : List Int).map itoa)) := ⟨_, rfl⟩
      have HT := Lib.hid hT
      have hTl : T.size ≤ 140 := by
        have h := spW_len (ints_len (l := [a.call, a.who, a.epoch]) H64.out)
        rw [hT, bs_size]
        exact Nat.le_trans h (by simp)
      have HB3 := Lib.hid (below_new Z (.cells #[.int .i64 a.call, .int .i64 a.who, .int .i64 a.epoch] 2))
      rw [← hT] at HNS
      have HE : Hid (S ++ T = bs (evT a.con)) := Lib.hid (by
        rw [HS.out, HT.out, bs_append, evT_pre (show a.con.kind = 3 from HK.out)]
        rfl)
      have HSZ : Hid (S.size + T.size = (evT a.con).length) := Lib.hid (by rw [← bs_size, ← HE.out, ByteArray.size_append])
      clear hT
      go_wp2_with fail
      refine HNS.out.mono ?_
      rintro e X3 ⟨rfl, hb⟩
      have HBX := Lib.hid (HB1.out.1.trans ((HZ.out.2.2.trans ((HB3.out.trans (hb.mono HB3.out.size)).mono HZ.out.2.2.size)).mono HB1.out.1.size))
      clear hb
      have hlen : (evT a.con).length ≤ 65536 := by have := HSZ.out; omega
      have d1 : decide ((65536 : Int) < ((S.size + T.size : Nat) : Int)) = false := decide_eq_false (by have := HSZ.out; omega)
      have HLEN := Lib.hid hlen
      clear hlen
      go_wp2_with fail
      go_ret2
      refine ⟨.inl ⟨HOK.out, HLEN.out, ?_⟩, HBX.out⟩
      rw [← HE.out]
      rfl
    · have hp3 := HCL.out 3 (.int .i64 a.call) rfl Z HZ.out.2.2
      have hp5 := HCL.out 5 (.int .i64 a.n) rfl Z HZ.out.2.2
      have H64 : Hid (∀ v ∈ ([a.call, a.n] : List Int), Is64 v) := Lib.hid (fun v hv => by
        simp only [List.mem_cons, List.mem_nil_iff, or_false] at hv
        rcases hv with rfl | rfl
        · exact HB1.out.2.2.2.1.call
        · exact HB1.out.2.2.2.1.n)
      have HNS := Lib.hid (nums51_any [a.call, a.n] H64.out (by simp) (some ⟨Z.heap.size, 0, none⟩) 2 (Z.alloc (.cells #[.int .i64 a.call, .int .i64 a.n] 2)) (Sl.lit Z _ 2 rfl))
      obtain ⟨T, hT⟩ : ∃ T, T = bs (spW (([a.call, a.n] : List Int).map itoa)) := ⟨_, rfl⟩
      have HT := Lib.hid hT
      have hTl : T.size ≤ 140 := by
        have h := spW_len (ints_len (l := [a.call, a.n]) H64.out)
        rw [hT, bs_size]
        exact Nat.le_trans h (by simp)
      have HB3 := Lib.hid (below_new Z (.cells #[.int .i64 a.call, .int .i64 a.n] 2))
      rw [← hT] at HNS
      have HE : Hid (S ++ T = bs (evT a.con)) := Lib.hid (by
        rw [HS.out, HT.out, bs_append, evT_pre (show a.con.kind = 4 from HK.out)]
        rfl)
      have HSZ : Hid (S.size + T.size = (evT a.con).length) := Lib.hid (by rw [← bs_size, ← HE.out, ByteArray.size_append])
      clear hT
      go_wp2_with fail
      refine HNS.out.mono ?_
      rintro e X3 ⟨rfl, hb⟩
      have HBX := Lib.hid (HB1.out.1.trans ((HZ.out.2.2.trans ((HB3.out.trans (hb.mono HB3.out.size)).mono HZ.out.2.2.size)).mono HB1.out.1.size))
      clear hb
      have hlen : (evT a.con).length ≤ 65536 := by have := HSZ.out; omega
      have d1 : decide ((65536 : Int) < ((S.size + T.size : Nat) : Int)) = false := decide_eq_false (by have := HSZ.out; omega)
      have HLEN := Lib.hid hlen
      clear hlen
      go_wp2_with fail
      go_ret2
      refine ⟨.inl ⟨HOK.out, HLEN.out, ?_⟩, HBX.out⟩
      rw [← HE.out]
      rfl
    · have hp3 := HCL.out 3 (.int .i64 a.call) rfl Z HZ.out.2.2
      have H64 : Hid (∀ v ∈ ([a.call] : List Int), Is64 v) := Lib.hid (fun v hv => by
        simp only [List.mem_cons, List.mem_nil_iff, or_false] at hv
        rcases hv with rfl
        · exact HB1.out.2.2.2.1.call)
      have HNS := Lib.hid (nums51_any [a.call] H64.out (by simp) (some ⟨Z.heap.size, 0, none⟩) 1 (Z.alloc (.cells #[.int .i64 a.call] 2)) (Sl.lit Z _ 2 rfl))
      obtain ⟨T, hT⟩ : ∃ T, T = bs (spW (([a.call] : List Int).map itoa)) := ⟨_, rfl⟩
      have HT := Lib.hid hT
      have hTl : T.size ≤ 140 := by
        have h := spW_len (ints_len (l := [a.call]) H64.out)
        rw [hT, bs_size]
        exact Nat.le_trans h (by simp)
      have HB3 := Lib.hid (below_new Z (.cells #[.int .i64 a.call] 2))
      rw [← hT] at HNS
      have HE : Hid (S ++ T = bs (evT a.con)) := Lib.hid (by
        rw [HS.out, HT.out, bs_append, evT_pre (show a.con.kind = 5 from HK.out)]
        rfl)
      have HSZ : Hid (S.size + T.size = (evT a.con).length) := Lib.hid (by rw [← bs_size, ← HE.out, ByteArray.size_append])
      clear hT
      go_wp2_with fail
      refine HNS.out.mono ?_
      rintro e X3 ⟨rfl, hb⟩
      have HBX := Lib.hid (HB1.out.1.trans ((HZ.out.2.2.trans ((HB3.out.trans (hb.mono HB3.out.size)).mono HZ.out.2.2.size)).mono HB1.out.1.size))
      clear hb
      have hlen : (evT a.con).length ≤ 65536 := by have := HSZ.out; omega
      have d1 : decide ((65536 : Int) < ((S.size + T.size : Nat) : Int)) = false := decide_eq_false (by have := HSZ.out; omega)
      have HLEN := Lib.hid hlen
      clear hlen
      go_wp2_with fail
      go_ret2
      refine ⟨.inl ⟨HOK.out, HLEN.out, ?_⟩, HBX.out⟩
      rw [← HE.out]
      rfl
    · have hp3 := HCL.out 3 (.int .i64 a.call) rfl Z HZ.out.2.2
      have hp4 := HCL.out 4 (.int .i64 a.epoch) rfl Z HZ.out.2.2
      have H64 : Hid (∀ v ∈ ([a.call, a.who, a.epoch] : List Int), Is64 v) := Lib.hid (fun v hv => by
        simp only [List.mem_cons, List.mem_nil_iff, or_false] at hv
        rcases hv with rfl | rfl | rfl
        · exact HB1.out.2.2.2.1.call
        · exact HB1.out.2.2.2.1.who
        · exact HB1.out.2.2.2.1.epoch)
      have HNS := Lib.hid (nums51_any [a.call, a.who, a.epoch] H64.out (by simp) (some ⟨Z.heap.size, 0, none⟩) 3 (Z.alloc (.cells #[.int .i64 a.call, .int .i64 a.who, .int .i64 a.epoch] 2)) (Sl.lit Z _ 2 rfl))
      obtain ⟨T, hT⟩ : ∃ T, T = bs (spW (([a.call, a.who, a.epoch] : List Int).map itoa)) := ⟨_, rfl⟩
      have HT := Lib.hid hT
      have hTl : T.size ≤ 140 := by
        have h := spW_len (ints_len (l := [a.call, a.who, a.epoch]) H64.out)
        rw [hT, bs_size]
        exact Nat.le_trans h (by simp)
      have HB3 := Lib.hid (below_new Z (.cells #[.int .i64 a.call, .int .i64 a.who, .int .i64 a.epoch] 2))
      rw [← hT] at HNS
      have HE : Hid (S ++ T = bs (evT a.con)) := Lib.hid (by
        rw [HS.out, HT.out, bs_append, evT_pre (show a.con.kind = 6 from HK.out)]
        rfl)
      have HSZ : Hid (S.size + T.size = (evT a.con).length) := Lib.hid (by rw [← bs_size, ← HE.out, ByteArray.size_append])
      clear hT
      go_wp2_with fail
      refine HNS.out.mono ?_
      rintro e X3 ⟨rfl, hb⟩
      have HBX := Lib.hid (HB1.out.1.trans ((HZ.out.2.2.trans ((HB3.out.trans (hb.mono HB3.out.size)).mono HZ.out.2.2.size)).mono HB1.out.1.size))
      clear hb
      have hlen : (evT a.con).length ≤ 65536 := by have := HSZ.out; omega
      have d1 : decide ((65536 : Int) < ((S.size + T.size : Nat) : Int)) = false := decide_eq_false (by have := HSZ.out; omega)
      have HLEN := Lib.hid hlen
      clear hlen
      go_wp2_with fail
      go_ret2
      refine ⟨.inl ⟨HOK.out, HLEN.out, ?_⟩, HBX.out⟩
      rw [← HE.out]
      rfl
    · obtain ⟨V7, hV7⟩ : ∃ V, V = World.drew Z := ⟨_, rfl⟩
      have H64 : Hid (∀ v ∈ ([a.who, a.n, a.eterm, a.ekind] : List Int), Is64 v) := Lib.hid (fun v hv => by
        simp only [List.mem_cons, List.mem_nil_iff, or_false] at hv
        rcases hv with rfl | rfl | rfl | rfl
        · exact HB1.out.2.2.2.1.who
        · exact HB1.out.2.2.2.1.n
        · exact HB1.out.2.2.2.1.eterm
        · exact HB1.out.2.2.2.1.ekind)
      have HNS := Lib.hid (nums51_any [a.who, a.n, a.eterm, a.ekind] H64.out (by simp) (some ⟨V7.heap.size, 0, none⟩) 4 (V7.alloc (.cells #[.int .i64 a.who, .int .i64 a.n, .int .i64 a.eterm, .int .i64 a.ekind] 2)) (Sl.lit V7 _ 2 rfl))
      have HHX := Lib.hid (fun (X : World) (hX : Below W1.heap.size W1 X) => hex51_any a.ebody (by have := HB1.out.2.2.2.2.2; omega) a.eA a.ec X (Sl.more (Sl.below HB1.out.2.1.body (HB1.out.1.trans (hX.mono HB1.out.1.size))) (HB1.out.1.trans (hX.mono HB1.out.1.size)).size))
      obtain ⟨T, hT⟩ : ∃ T, T = bs (spW (([a.who, a.n, a.eterm, a.ekind] : List Int).map itoa)) := ⟨_, rfl⟩
      have hTl : T.size ≤ 140 := by
        have h := spW_len (ints_len (l := [a.who, a.n, a.eterm, a.ekind]) H64.out)
        rw [hT, bs_size]
        exact Nat.le_trans h (by simp)
      obtain ⟨U, hU⟩ : ∃ U, U = bs (hexW a.ebody) := ⟨_, rfl⟩
      have hUl : U.size ≤ 200001 := by
        rw [hU, bs_size, hexW_eq, List.length_cons, hex2_len]
        have := HB1.out.2.2.2.2.2
        omega
      have HE : Hid (S ++ T ++ ⟨#[32]⟩ ++ U = bs (evT a.con)) := Lib.hid (by
        rw [HS.out, hT, hU, lit32, bs_append, bs_append, bs_append, evT_pre (show a.con.kind = 7 from HK.out), List.append_assoc, List.append_assoc]
        show bs (preE a.tick 7 ++ (spW [itoa a.who, itoa a.n, itoa a.eterm, itoa a.ekind] ++ 32 :: hexW a.ebody)) = bs (preE a.tick 7 ++ spW [itoa a.who, itoa a.n, itoa a.eterm, itoa a.ekind, hexW a.ebody])
        simp [spW])
      have HSZ : Hid (S.size + T.size + 1 + U.size = (evT a.con).length) := Lib.hid (by rw [← bs_size, ← HE.out, ByteArray.size_append, ByteArray.size_append, ByteArray.size_append]; rfl)
      rw [← hT] at HNS
      rw [← hU] at HHX
      clear hT hU
      obtain ⟨el, hel⟩ : ∃ el, el = a.ebody.length := ⟨_, rfl⟩
      have HC8 := Lib.hid (show ∀ X : World, Below W1.heap.size W1 X → X.cell? ⟨w.heap.size, 5, none⟩ = some (.int .i64 a.n) ∧ X.cell? ⟨w.heap.size, 6, none⟩ = some (.int .i64 a.eterm) ∧ X.cell? ⟨w.heap.size, 7, none⟩ = some (.int .i64 a.ekind) ∧ X.cell? ⟨w.heap.size, 8, none⟩ = some (.slice a.eA el a.ec) from fun X hX => by rw [hel]; exact ⟨HCL.out 5 _ rfl X hX, HCL.out 6 _ rfl X hX, HCL.out 7 _ rfl X hX, HCL.out 8 _ rfl X hX⟩)
      rw [← hel] at HHX
      clear hel
      go_wp2_with fail
      have HH7 := Lib.hid (show Below W1.heap.size W1 Z.drew from below_dr HZ.out.2.2 1)
      refine wp_region_held_drew (S := fun W' => Below W1.heap.size W1 W') (by kernel_rfl) HH7.out (fun hHeld => ?_)
      rw [← hV7] at hHeld ⊢
      clear hV7 HH7
      refine wpAnyH_take (i := 0) (v := .string S) rfl (by kernel_rfl) (by kernel_rfl) (by kernel_rfl) (fun _ _ _ h => h) (Or.inl ⟨by rfl, ?_⟩) (by assumption) ?_
      · intro w' hSw
        go_simp
      show wpAnyH _ _ _ _ _ _ _ (Act.put _ (some 85) _) _
      simp only [Act.put, List.setIfInBounds_toArray, List.set_cons_zero, List.set_cons_succ]
      refine wpAnyH_take (i := 1) (v := .int .i64 a.who) rfl (by kernel_rfl) (by kernel_rfl) (by kernel_rfl) (fun _ _ _ h => h) (Or.inl ⟨by rfl, ?_⟩) (by assumption) ?_
      · intro w' hSw
        go_simp
      show wpAnyH _ _ _ _ _ _ _ (Act.put _ (some 86) _) _
      simp only [Act.put, List.setIfInBounds_toArray, List.set_cons_zero, List.set_cons_succ]
      refine wpAnyH_take (i := 2) (v := .pointer (some ⟨w.heap.size, 5, none⟩)) rfl (by kernel_rfl) (by kernel_rfl) (by kernel_rfl) (fun _ _ _ h => h) (Or.inl ⟨by rfl, ?_⟩) (by assumption) ?_
      · intro w' hSw
        go_simp
      show wpAnyH _ _ _ _ _ _ _ (Act.put _ (some 87) _) _
      simp only [Act.put, List.setIfInBounds_toArray, List.set_cons_zero, List.set_cons_succ]
      refine wpAnyH_take (i := 3) (v := .int .i64 a.n) rfl (by kernel_rfl) (by kernel_rfl) (by kernel_rfl) (fun _ _ _ h => h) (Or.inl ⟨by rfl, ?_⟩) (by assumption) ?_
      · intro w' hSw
        have hc := (HC8.out w' hSw).1
        go_simp
      show wpAnyH _ _ _ _ _ _ _ (Act.put _ (some 88) _) _
      simp only [Act.put, List.setIfInBounds_toArray, List.set_cons_zero, List.set_cons_succ]
      refine wpAnyH_take (i := 4) (v := .pointer (some ⟨w.heap.size, 6, none⟩)) rfl (by kernel_rfl) (by kernel_rfl) (by kernel_rfl) (fun _ _ _ h => h) (Or.inl ⟨by rfl, ?_⟩) (by assumption) ?_
      · intro w' hSw
        go_simp
      show wpAnyH _ _ _ _ _ _ _ (Act.put _ (some 89) _) _
      simp only [Act.put, List.setIfInBounds_toArray, List.set_cons_zero, List.set_cons_succ]
      refine wpAnyH_take (i := 5) (v := .pointer (some ⟨w.heap.size, 6, none⟩)) rfl (by kernel_rfl) (by kernel_rfl) (by kernel_rfl) (fun _ _ _ h => h) (Or.inl ⟨by rfl, ?_⟩) (by assumption) ?_
      · intro w' hSw
        go_simp
      show wpAnyH _ _ _ _ _ _ _ (Act.put _ (some 90) _) _
      simp only [Act.put, List.setIfInBounds_toArray, List.set_cons_zero, List.set_cons_succ]
      refine wpAnyH_take (i := 6) (v := .int .i64 a.eterm) rfl (by kernel_rfl) (by kernel_rfl) (by kernel_rfl) (fun _ _ _ h => h) (Or.inl ⟨by rfl, ?_⟩) (by assumption) ?_
      · intro w' hSw
        have hc := (HC8.out w' hSw).2.1
        go_simp
      show wpAnyH _ _ _ _ _ _ _ (Act.put _ (some 91) _) _
      simp only [Act.put, List.setIfInBounds_toArray, List.set_cons_zero, List.set_cons_succ]
      refine wpAnyH_take (i := 7) (v := .pointer (some ⟨w.heap.size, 6, none⟩)) rfl (by kernel_rfl) (by kernel_rfl) (by kernel_rfl) (fun _ _ _ h => h) (Or.inl ⟨by rfl, ?_⟩) (by assumption) ?_
      · intro w' hSw
        go_simp
      show wpAnyH _ _ _ _ _ _ _ (Act.put _ (some 92) _) _
      simp only [Act.put, List.setIfInBounds_toArray, List.set_cons_zero, List.set_cons_succ]
      refine wpAnyH_take (i := 8) (v := .pointer (some ⟨w.heap.size, 7, none⟩)) rfl (by kernel_rfl) (by kernel_rfl) (by kernel_rfl) (fun _ _ _ h => h) (Or.inl ⟨by rfl, ?_⟩) (by assumption) ?_
      · intro w' hSw
        go_simp
      show wpAnyH _ _ _ _ _ _ _ (Act.put _ (some 93) _) _
      simp only [Act.put, List.setIfInBounds_toArray, List.set_cons_zero, List.set_cons_succ]
      refine wpAnyH_take (i := 9) (v := .int .i64 a.ekind) rfl (by kernel_rfl) (by kernel_rfl) (by kernel_rfl) (fun _ _ _ h => h) (Or.inl ⟨by rfl, ?_⟩) (by assumption) ?_
      · intro w' hSw
        have hc := (HC8.out w' hSw).2.2.1
        go_simp
      show wpAnyH _ _ _ _ _ _ _ (Act.put _ (some 94) _) _
      simp only [Act.put, List.setIfInBounds_toArray, List.set_cons_zero, List.set_cons_succ]
      refine wpAnyH_take (i := 14) (v := .pointer (some ⟨w.heap.size, 6, none⟩)) rfl (by kernel_rfl) (by kernel_rfl) (by kernel_rfl) (fun _ _ _ h => h) (Or.inl ⟨by rfl, ?_⟩) (by assumption) ?_
      · intro w' hSw
        go_simp
      show wpAnyH _ _ _ _ _ _ _ (Act.put _ (some 99) _) _
      simp only [Act.put, List.setIfInBounds_toArray, List.set_cons_zero, List.set_cons_succ]
      refine wpAnyH_take (i := 15) (v := .pointer (some ⟨w.heap.size, 8, none⟩)) rfl (by kernel_rfl) (by kernel_rfl) (by kernel_rfl) (fun _ _ _ h => h) (Or.inl ⟨by rfl, ?_⟩) (by assumption) ?_
      · intro w' hSw
        go_simp
      show wpAnyH _ _ _ _ _ _ _ (Act.put _ (some 100) _) _
      simp only [Act.put, List.setIfInBounds_toArray, List.set_cons_zero, List.set_cons_succ]
      refine wpAnyH_take (i := 16) (v := .slice a.eA el a.ec) rfl (by kernel_rfl) (by kernel_rfl) (by kernel_rfl) (fun _ _ _ h => h) (Or.inl ⟨by rfl, ?_⟩) (by assumption) ?_
      · intro w' hSw
        have hc := (HC8.out w' hSw).2.2.2
        go_simp
      show wpAnyH _ _ _ _ _ _ _ (Act.put _ (some 101) _) _
      simp only [Act.put, List.setIfInBounds_toArray, List.set_cons_zero, List.set_cons_succ]
      refine wpAnyH_ready (rs := [10]) (by kernel_rfl) (by simp) ?_
      refine AllReadyH.cons rfl (fun K hK => ?_) AllReadyH.nil
      go_simp
      have hV1 := hHeld.trans ((below_new V7 (.cells #[.int .i64 a.who, .int .i64 a.n, .int .i64 a.eterm, .int .i64 a.ekind] 2)).mono hHeld.size)
      refine hK.out _ _ hV1 (fun hHeld => ?_)
      clear hK K
      refine wpAnyH_ready (rs := [11]) (by kernel_rfl) (by simp) ?_
      refine AllReadyH.cons rfl (fun K hK => ?_) AllReadyH.nil
      go_simp
      refine HNS.out.mono ?_
      rintro e V2 ⟨rfl, hv2⟩
      go_simp
      have hV2 := hV1.trans (hv2.mono hV1.size)
      clear hv2
      refine hK.out _ _ hV2 (fun hHeld => ?_)
      clear hK K
      refine wpAnyH_take (i := 12) (v := .string (S ++ T)) rfl (by kernel_rfl) (by kernel_rfl) (by kernel_rfl) (fun _ _ _ h => h) (Or.inl ⟨by rfl, ?_⟩) (by assumption) ?_
      · intro w' hSw
        go_simp
        omega
      show wpAnyH _ _ _ _ _ _ _ (Act.put _ (some 97) _) _
      simp only [Act.put, List.setIfInBounds_toArray, List.set_cons_zero, List.set_cons_succ]
      refine wpAnyH_take (i := 13) (v := .string (S ++ T ++ ⟨#[32]⟩)) rfl (by kernel_rfl) (by kernel_rfl) (by kernel_rfl) (fun _ _ _ h => h) (Or.inl ⟨by rfl, ?_⟩) (by assumption) ?_
      · intro w' hSw
        go_simp
        omega
      show wpAnyH _ _ _ _ _ _ _ (Act.put _ (some 98) _) _
      simp only [Act.put, List.setIfInBounds_toArray, List.set_cons_zero, List.set_cons_succ]
      refine wpAnyH_ready (rs := [17]) (by kernel_rfl) (by simp) ?_
      refine AllReadyH.cons rfl (fun K hK => ?_) AllReadyH.nil
      go_simp
      refine (HHX.out _ hV2).mono ?_
      rintro e V3 ⟨rfl, hv3⟩
      go_simp
      have hV3 := hV2.trans (hv3.mono hV2.size)
      clear hv3
      refine hK.out _ _ hV3 (fun hHeld => ?_)
      clear hK K
      refine wpAnyH_take (i := 18) (v := .string (S ++ T ++ ⟨#[32]⟩ ++ U)) rfl (by kernel_rfl) (by kernel_rfl) (by kernel_rfl) (fun _ _ _ h => h) (Or.inl ⟨by rfl, ?_⟩) (by assumption) ?_
      · intro w' hSw
        go_simp
        omega
      show wpAnyH _ _ _ _ _ _ _ (Act.put _ (some 103) _) _
      simp only [Act.put, List.setIfInBounds_toArray, List.set_cons_zero, List.set_cons_succ]
      refine wpAnyH_take (i := 19) (v := .string (S ++ T ++ ⟨#[32]⟩ ++ U)) rfl (by kernel_rfl) (by kernel_rfl) (by kernel_rfl) (fun _ _ _ h => h) (Or.inl ⟨by rfl, ?_⟩) (by assumption) ?_
      · intro w' hSw
        go_simp
      show wpAnyH _ _ _ _ _ _ _ (Act.put _ (some 4) _) _
      simp only [Act.put, List.setIfInBounds_toArray, List.set_cons_zero, List.set_cons_succ]
      refine wpAnyH_done (by kernel_rfl) ?_ _
      have HBX := Lib.hid (HB1.out.1.trans (hV3.mono HB1.out.1.size))
      obtain ⟨R, hRR⟩ : ∃ R, R = S ++ T ++ ⟨#[32]⟩ ++ U := ⟨_, rfl⟩
      have HRS2 := Lib.hid (show R.size = (evT a.con).length by rw [hRR, HE.out, bs_size])
      rw [← hRR] at HE ⊢
      have hRl : R.size ≤ 300000 := by rw [hRR, ByteArray.size_append, ByteArray.size_append, ByteArray.size_append]; have h32 : (⟨#[32]⟩ : ByteArray).size = 1 := rfl; omega
      clear hRR hV1 hV2 hV3 hHeld HSZ
      have HSZ := HRS2
      by_cases hlen : (evT a.con).length ≤ 65536
      · have d1 : decide ((65536 : Int) < (R.size : Int)) = false := decide_eq_false (by have := HSZ.out; omega)
        have HLEN := Lib.hid hlen
        clear hlen
        go_wp2_with fail
        go_ret2
        refine ⟨.inl ⟨HOK.out, HLEN.out, ?_⟩, HBX.out⟩
        rw [← HE.out]
        rfl
      · have d1 : decide ((65536 : Int) < (R.size : Int)) = true := decide_eq_true (by have := HSZ.out; omega)
        have HLEN := Lib.hid (show 65536 < (evT a.con).length by omega)
        clear hlen
        go_wp2_with fail
        go_ret2
        exact ⟨.inr (.inl ⟨HOK.out, HLEN.out, rfl⟩), HBX.out⟩
    · have hq0 := HZ.out.1.cell (j := 0) rfl
      have hq1 := HZ.out.1.cell (j := 1) rfl
      have hq2 := HZ.out.1.cell (j := 2) rfl
      have hq3 := HZ.out.1.cell (j := 3) rfl
      have hq4 := HZ.out.1.cell (j := 4) rfl
      have H64 : Hid (∀ v ∈ ([a.who, a.ord.unit, a.ord.epoch, a.ord.kind, a.ord.incident, a.ord.node] : List Int), Is64 v) := Lib.hid (fun v hv => by
        simp only [List.mem_cons, List.mem_nil_iff, or_false] at hv
        rcases hv with rfl | rfl | rfl | rfl | rfl | rfl
        · exact HB1.out.2.2.2.1.who
        · exact HB1.out.2.2.2.1.ord.1
        · exact HB1.out.2.2.2.1.ord.2.1
        · exact HB1.out.2.2.2.1.ord.2.2.1
        · exact HB1.out.2.2.2.1.ord.2.2.2.1
        · exact HB1.out.2.2.2.1.ord.2.2.2.2)
      have HNS := Lib.hid (nums51_any [a.who, a.ord.unit, a.ord.epoch, a.ord.kind, a.ord.incident, a.ord.node] H64.out (by simp) (some ⟨Z.heap.size, 0, none⟩) 6 (Z.alloc (.cells #[.int .i64 a.who, .int .i64 a.ord.unit, .int .i64 a.ord.epoch, .int .i64 a.ord.kind, .int .i64 a.ord.incident, .int .i64 a.ord.node] 2)) (Sl.lit Z _ 2 rfl))
      obtain ⟨T, hT⟩ : ∃ T, T = bs (spW (([a.who, a.ord.unit, a.ord.epoch, a.ord.kind, a.ord.incident, a.ord.node] : List Int).map itoa)) := ⟨_, rfl⟩
      have HT := Lib.hid hT
      have hTl : T.size ≤ 140 := by
        have h := spW_len (ints_len (l := [a.who, a.ord.unit, a.ord.epoch, a.ord.kind, a.ord.incident, a.ord.node]) H64.out)
        rw [hT, bs_size]
        exact Nat.le_trans h (by simp)
      have HB3 := Lib.hid (below_new Z (.cells #[.int .i64 a.who, .int .i64 a.ord.unit, .int .i64 a.ord.epoch, .int .i64 a.ord.kind, .int .i64 a.ord.incident, .int .i64 a.ord.node] 2))
      rw [← hT] at HNS
      have HE : Hid (S ++ T = bs (evT a.con)) := Lib.hid (by
        rw [HS.out, HT.out, bs_append, evT_pre (show a.con.kind = 8 from HK.out)]
        rfl)
      have HSZ : Hid (S.size + T.size = (evT a.con).length) := Lib.hid (by rw [← bs_size, ← HE.out, ByteArray.size_append])
      clear hT
      go_wp2_with fail
      refine HNS.out.mono ?_
      rintro e X3 ⟨rfl, hb⟩
      have HBX := Lib.hid (HB1.out.1.trans ((HZ.out.2.2.trans ((HB3.out.trans (hb.mono HB3.out.size)).mono HZ.out.2.2.size)).mono HB1.out.1.size))
      clear hb
      have hlen : (evT a.con).length ≤ 65536 := by have := HSZ.out; omega
      have d1 : decide ((65536 : Int) < ((S.size + T.size : Nat) : Int)) = false := decide_eq_false (by have := HSZ.out; omega)
      have HLEN := Lib.hid hlen
      clear hlen
      go_wp2_with fail
      go_ret2
      refine ⟨.inl ⟨HOK.out, HLEN.out, ?_⟩, HBX.out⟩
      rw [← HE.out]
      rfl
    · have hq0 := HZ.out.2.1.cell (j := 0) rfl
      have hq1 := HZ.out.2.1.cell (j := 1) rfl
      have hq2 := HZ.out.2.1.cell (j := 2) rfl
      have hq3 := HZ.out.2.1.cell (j := 3) rfl
      have hq4 := HZ.out.2.1.cell (j := 4) rfl
      have H64 : Hid (∀ v ∈ ([a.who, a.sta.unit, a.sta.seq, a.sta.state, a.sta.node, a.sta.epoch] : List Int), Is64 v) := Lib.hid (fun v hv => by
        simp only [List.mem_cons, List.mem_nil_iff, or_false] at hv
        rcases hv with rfl | rfl | rfl | rfl | rfl | rfl
        · exact HB1.out.2.2.2.1.who
        · exact HB1.out.2.2.2.1.sta.1
        · exact HB1.out.2.2.2.1.sta.2.1
        · exact HB1.out.2.2.2.1.sta.2.2.1
        · exact HB1.out.2.2.2.1.sta.2.2.2.1
        · exact HB1.out.2.2.2.1.sta.2.2.2.2)
      have HNS := Lib.hid (nums51_any [a.who, a.sta.unit, a.sta.seq, a.sta.state, a.sta.node, a.sta.epoch] H64.out (by simp) (some ⟨Z.heap.size, 0, none⟩) 6 (Z.alloc (.cells #[.int .i64 a.who, .int .i64 a.sta.unit, .int .i64 a.sta.seq, .int .i64 a.sta.state, .int .i64 a.sta.node, .int .i64 a.sta.epoch] 2)) (Sl.lit Z _ 2 rfl))
      obtain ⟨T, hT⟩ : ∃ T, T = bs (spW (([a.who, a.sta.unit, a.sta.seq, a.sta.state, a.sta.node, a.sta.epoch] : List Int).map itoa)) := ⟨_, rfl⟩
      have HT := Lib.hid hT
      have hTl : T.size ≤ 140 := by
        have h := spW_len (ints_len (l := [a.who, a.sta.unit, a.sta.seq, a.sta.state, a.sta.node, a.sta.epoch]) H64.out)
        rw [hT, bs_size]
        exact Nat.le_trans h (by simp)
      have HB3 := Lib.hid (below_new Z (.cells #[.int .i64 a.who, .int .i64 a.sta.unit, .int .i64 a.sta.seq, .int .i64 a.sta.state, .int .i64 a.sta.node, .int .i64 a.sta.epoch] 2))
      rw [← hT] at HNS
      have HE : Hid (S ++ T = bs (evT a.con)) := Lib.hid (by
        rw [HS.out, HT.out, bs_append, evT_pre (show a.con.kind = 9 from HK.out)]
        rfl)
      have HSZ : Hid (S.size + T.size = (evT a.con).length) := Lib.hid (by rw [← bs_size, ← HE.out, ByteArray.size_append])
      clear hT
      go_wp2_with fail
      refine HNS.out.mono ?_
      rintro e X3 ⟨rfl, hb⟩
      have HBX := Lib.hid (HB1.out.1.trans ((HZ.out.2.2.trans ((HB3.out.trans (hb.mono HB3.out.size)).mono HZ.out.2.2.size)).mono HB1.out.1.size))
      clear hb
      have hlen : (evT a.con).length ≤ 65536 := by have := HSZ.out; omega
      have d1 : decide ((65536 : Int) < ((S.size + T.size : Nat) : Int)) = false := decide_eq_false (by have := HSZ.out; omega)
      have HLEN := Lib.hid hlen
      clear hlen
      go_wp2_with fail
      go_ret2
      refine ⟨.inl ⟨HOK.out, HLEN.out, ?_⟩, HBX.out⟩
      rw [← HE.out]
      rfl
    · have H64 : Hid (∀ v ∈ ([a.who] : List Int), Is64 v) := Lib.hid (fun v hv => by
        simp only [List.mem_cons, List.mem_nil_iff, or_false] at hv
        rcases hv with rfl
        · exact HB1.out.2.2.2.1.who)
      have HNS := Lib.hid (nums51_any [a.who] H64.out (by simp) (some ⟨Z.heap.size, 0, none⟩) 1 (Z.alloc (.cells #[.int .i64 a.who] 2)) (Sl.lit Z _ 2 rfl))
      obtain ⟨T, hT⟩ : ∃ T, T = bs (spW (([a.who] : List Int).map itoa)) := ⟨_, rfl⟩
      have HT := Lib.hid hT
      have hTl : T.size ≤ 140 := by
        have h := spW_len (ints_len (l := [a.who]) H64.out)
        rw [hT, bs_size]
        exact Nat.le_trans h (by simp)
      have HB3 := Lib.hid (below_new Z (.cells #[.int .i64 a.who] 2))
      rw [← hT] at HNS
      have HE : Hid (S ++ T = bs (evT a.con)) := Lib.hid (by
        rw [HS.out, HT.out, bs_append, evT_pre (show a.con.kind = 10 from HK.out)]
        rfl)
      have HSZ : Hid (S.size + T.size = (evT a.con).length) := Lib.hid (by rw [← bs_size, ← HE.out, ByteArray.size_append])
      clear hT
      go_wp2_with fail
      refine HNS.out.mono ?_
      rintro e X3 ⟨rfl, hb⟩
      have HBX := Lib.hid (HB1.out.1.trans ((HZ.out.2.2.trans ((HB3.out.trans (hb.mono HB3.out.size)).mono HZ.out.2.2.size)).mono HB1.out.1.size))
      clear hb
      have hlen : (evT a.con).length ≤ 65536 := by have := HSZ.out; omega
      have d1 : decide ((65536 : Int) < ((S.size + T.size : Nat) : Int)) = false := decide_eq_false (by have := HSZ.out; omega)
      have HLEN := Lib.hid hlen
      clear hlen
      go_wp2_with fail
      go_ret2
      refine ⟨.inl ⟨HOK.out, HLEN.out, ?_⟩, HBX.out⟩
      rw [← HE.out]
      rfl
    · have H64 : Hid (∀ v ∈ ([a.who] : List Int), Is64 v) := Lib.hid (fun v hv => by
        simp only [List.mem_cons, List.mem_nil_iff, or_false] at hv
        rcases hv with rfl
        · exact HB1.out.2.2.2.1.who)
      have HNS := Lib.hid (nums51_any [a.who] H64.out (by simp) (some ⟨Z.heap.size, 0, none⟩) 1 (Z.alloc (.cells #[.int .i64 a.who] 2)) (Sl.lit Z _ 2 rfl))
      obtain ⟨T, hT⟩ : ∃ T, T = bs (spW (([a.who] : List Int).map itoa)) := ⟨_, rfl⟩
      have HT := Lib.hid hT
      have hTl : T.size ≤ 140 := by
        have h := spW_len (ints_len (l := [a.who]) H64.out)
        rw [hT, bs_size]
        exact Nat.le_trans h (by simp)
      have HB3 := Lib.hid (below_new Z (.cells #[.int .i64 a.who] 2))
      rw [← hT] at HNS
      have HE : Hid (S ++ T = bs (evT a.con)) := Lib.hid (by
        rw [HS.out, HT.out, bs_append, evT_pre (show a.con.kind = 11 from HK.out)]
        rfl)
      have HSZ : Hid (S.size + T.size = (evT a.con).length) := Lib.hid (by rw [← bs_size, ← HE.out, ByteArray.size_append])
      clear hT
      go_wp2_with fail
      refine HNS.out.mono ?_
      rintro e X3 ⟨rfl, hb⟩
      have HBX := Lib.hid (HB1.out.1.trans ((HZ.out.2.2.trans ((HB3.out.trans (hb.mono HB3.out.size)).mono HZ.out.2.2.size)).mono HB1.out.1.size))
      clear hb
      have hlen : (evT a.con).length ≤ 65536 := by have := HSZ.out; omega
      have d1 : decide ((65536 : Int) < ((S.size + T.size : Nat) : Int)) = false := decide_eq_false (by have := HSZ.out; omega)
      have HLEN := Lib.hid hlen
      clear hlen
      go_wp2_with fail
      go_ret2
      refine ⟨.inl ⟨HOK.out, HLEN.out, ?_⟩, HBX.out⟩
      rw [← HE.out]
      rfl
    · have hp5 := HCL.out 5 (.int .i64 a.n) rfl Z HZ.out.2.2
      have hp4 := HCL.out 4 (.int .i64 a.epoch) rfl Z HZ.out.2.2
      have H64 : Hid (∀ v ∈ ([a.who, a.n, a.epoch] : List Int), Is64 v) := Lib.hid (fun v hv => by
        simp only [List.mem_cons, List.mem_nil_iff, or_false] at hv
        rcases hv with rfl | rfl | rfl
        · exact HB1.out.2.2.2.1.who
        · exact HB1.out.2.2.2.1.n
        · exact HB1.out.2.2.2.1.epoch)
      have HNS := Lib.hid (nums51_any [a.who, a.n, a.epoch] H64.out (by simp) (some ⟨Z.heap.size, 0, none⟩) 3 (Z.alloc (.cells #[.int .i64 a.who, .int .i64 a.n, .int .i64 a.epoch] 2)) (Sl.lit Z _ 2 rfl))
      obtain ⟨T, hT⟩ : ∃ T, T = bs (spW (([a.who, a.n, a.epoch] : List Int).map itoa)) := ⟨_, rfl⟩
      have HT := Lib.hid hT
      have hTl : T.size ≤ 140 := by
        have h := spW_len (ints_len (l := [a.who, a.n, a.epoch]) H64.out)
        rw [hT, bs_size]
        exact Nat.le_trans h (by simp)
      have HB3 := Lib.hid (below_new Z (.cells #[.int .i64 a.who, .int .i64 a.n, .int .i64 a.epoch] 2))
      rw [← hT] at HNS
      have HE : Hid (S ++ T = bs (evT a.con)) := Lib.hid (by
        rw [HS.out, HT.out, bs_append, evT_pre (show a.con.kind = 12 from HK.out)]
        rfl)
      have HSZ : Hid (S.size + T.size = (evT a.con).length) := Lib.hid (by rw [← bs_size, ← HE.out, ByteArray.size_append])
      clear hT
      go_wp2_with fail
      refine HNS.out.mono ?_
      rintro e X3 ⟨rfl, hb⟩
      have HBX := Lib.hid (HB1.out.1.trans ((HZ.out.2.2.trans ((HB3.out.trans (hb.mono HB3.out.size)).mono HZ.out.2.2.size)).mono HB1.out.1.size))
      clear hb
      have hlen : (evT a.con).length ≤ 65536 := by have := HSZ.out; omega
      have d1 : decide ((65536 : Int) < ((S.size + T.size : Nat) : Int)) = false := decide_eq_false (by have := HSZ.out; omega)
      have HLEN := Lib.hid hlen
      clear hlen
      go_wp2_with fail
      go_ret2
      refine ⟨.inl ⟨HOK.out, HLEN.out, ?_⟩, HBX.out⟩
      rw [← HE.out]
      rfl
    · have hp5 := HCL.out 5 (.int .i64 a.n) rfl Z HZ.out.2.2
      have H64 : Hid (∀ v ∈ ([a.who, a.n] : List Int), Is64 v) := Lib.hid (fun v hv => by
        simp only [List.mem_cons, List.mem_nil_iff, or_false] at hv
        rcases hv with rfl | rfl
        · exact HB1.out.2.2.2.1.who
        · exact HB1.out.2.2.2.1.n)
      have HNS := Lib.hid (nums51_any [a.who, a.n] H64.out (by simp) (some ⟨Z.heap.size, 0, none⟩) 2 (Z.alloc (.cells #[.int .i64 a.who, .int .i64 a.n] 2)) (Sl.lit Z _ 2 rfl))
      obtain ⟨T, hT⟩ : ∃ T, T = bs (spW (([a.who, a.n] : List Int).map itoa)) := ⟨_, rfl⟩
      have HT := Lib.hid hT
      have hTl : T.size ≤ 140 := by
        have h := spW_len (ints_len (l := [a.who, a.n]) H64.out)
        rw [hT, bs_size]
        exact Nat.le_trans h (by simp)
      have HB3 := Lib.hid (below_new Z (.cells #[.int .i64 a.who, .int .i64 a.n] 2))
      rw [← hT] at HNS
      have HE : Hid (S ++ T = bs (evT a.con)) := Lib.hid (by
        rw [HS.out, HT.out, bs_append, evT_pre (show a.con.kind = 13 from HK.out)]
        rfl)
      have HSZ : Hid (S.size + T.size = (evT a.con).length) := Lib.hid (by rw [← bs_size, ← HE.out, ByteArray.size_append])
      clear hT
      go_wp2_with fail
      refine HNS.out.mono ?_
      rintro e X3 ⟨rfl, hb⟩
      have HBX := Lib.hid (HB1.out.1.trans ((HZ.out.2.2.trans ((HB3.out.trans (hb.mono HB3.out.size)).mono HZ.out.2.2.size)).mono HB1.out.1.size))
      clear hb
      have hlen : (evT a.con).length ≤ 65536 := by have := HSZ.out; omega
      have d1 : decide ((65536 : Int) < ((S.size + T.size : Nat) : Int)) = false := decide_eq_false (by have := HSZ.out; omega)
      have HLEN := Lib.hid hlen
      clear hlen
      go_wp2_with fail
      go_ret2
      refine ⟨.inl ⟨HOK.out, HLEN.out, ?_⟩, HBX.out⟩
      rw [← HE.out]
      rfl
  )
theorem text51_any (a : EvM) (w : World) (hat : EvAt w w.heap.size a) (hl : ActL a.act) (hR : EvR a.con) (hsz0 : actSize a.act.con ≤ 100000) (hbl : a.ebody.length ≤ 100000) : Calls Tryz.prog 14 #[evV a] w fun e w' => FmtR (EvOk a.con) (evT a.con) e ∧ Below w.heap.size w w' := by
  by_cases hok : EvOk a.con
  · exact text51_yes a w hat hl hR hsz0 hbl a.kind rfl hok
  · exact text51_no a w hat hl hok
end
end Go.Proofs.YtakdkiggaalimaaGreatDoor
