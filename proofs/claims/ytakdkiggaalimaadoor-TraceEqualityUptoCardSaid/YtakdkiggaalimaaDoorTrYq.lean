/-
  samaritanref51.One: places where two events differ (printed by gentrox.py).
  samaritanref51.One: places where two events differ (printed by gentrox.py).
  samaritanref51.One: places where two events differ (printed by gentrox.py).
  samaritanref51.One: places where two events differ (printed by gentrox.py).
  samaritanref51.One: places where two events differ (printed by gentrox.py).
  samaritanref51.One: places where two events differ (printed by gentrox.py).
  samaritanref51.One: places where two events differ (printed by gentrox.py).
  samaritanref51.One: places where two events differ (printed by gentrox.py).
  slices.EqualFunc at events; trace.Equal (printed by gentreq51.py).
  samaritanref51: Same (printed by gentrjn.py).
  What trace.Parse makes of a text, in plain Lean (the plain half of XTrPp, for a seat without strings.Cut).
  samaritanref51: FewAct.
  samaritanref51: Few; how a slice of events comes in, whole (printed by gentrjn.py).
  samaritanlaw51.wakes: the examples of the document.
  samaritanlaw51.TraceEquality: the walk (printed by gentrlq.py).
-/
import Derived.Test.YtakdkiggaalimaaDoorTrXe
import Derived.Test.YtakdkiggaalimaaDoorTrOr
import Derived.Test.YtakdkiggaalimaaDoorTrEI
import Derived.Lib.SlBytesConst
import Derived.Test.YtakdkiggaalimaaDoorTrVa
import Derived.Test.YtakdkiggaalimaaDoorTrFs
import Derived.Deep.WholeRow
import Derived.OrdersHeld
import Derived.Deep.RegionHeld3
import Derived.Deep.MidRow
import Derived.Test.YtakdkiggaalimaaDoorTrOa
import Derived.Test.YtakdkiggaalimaaDoorTrPc
import Derived.Test.YtakdkiggaalimaaDoorTrPe
import Derived.Test.YtakdkiggaalimaaDoorTrFm
namespace Go.Proofs.YtakdkiggaalimaaDoor
section
open Go.RowKit Go.Maps

/-- what One returns. -/
def RetOne (a b : EvM) (w : World) (e : Ending) (w' : World) : Prop := e = .returned (.bool (tb (a.con = b.con))) ∧ Below w.heap.size w w'
theorem wpList_at {P : Program} {ops : Array Oper} {Q : Exit → Act → World → Prop} {o : Oper} {r : List Oper} {a : Act} {w : World} (d : Nat) (_ho : o.dst = some d) (h : wpList P ops Q (o :: r) a w) : wpList P ops Q (o :: r) a w := h
theorem wpList_convV {P : Program} {ops : Array Oper} {Q : Exit → Act → World → Prop} {o : Oper} {r : List Oper} {a : Act} {w : World} {s : ByteArray} {t1 t2 : TypeId} {x : Operand} {v : Value} (ho : o.op = .convert t1 t2 x) (hw : Region.wanted o (yielded ops a.tmps) = true)
    (hx : a.eval x = v) (hrun : (convert t1 t2 v).run P w = .ok (.string s) w) (h : wpList P ops Q r (a.put o.dst (.string s)) w) : wpList P ops Q (o :: r) a w := by
  unfold wpList
  rw [if_pos hw]
  refine .inl ?_
  unfold Oper.wp execOp
  rw [ho]
  simp only [Sem.run_bind, hx]
  rw [hrun]
  exact h
theorem wpList_eqO {ops : Array Oper} {Q : Exit → Act → World → Prop} {o : Oper} {r : List Oper} {a : Act} {w : World} {i j : Nat} {t2 : TypeId} {o1 o2 : OrdC} (ho : o.op = .binOp .eql 34 (.tmp i) (.tmp j) t2) (hw : Region.wanted o (yielded ops a.tmps) = true)
    (hx : a.eval (.tmp i) = ordV o1) (hy : a.eval (.tmp j) = ordV o2) (b : Bool) (hb : tb (o1 = o2) = b) (h : wpList Tryd.prog ops Q r (a.put o.dst (.bool b)) w) : wpList Tryd.prog ops Q (o :: r) a w :=
  wpList_binB ho hw (by rw [hx, hy, ← hb]; exact ord_run' i j o1 o2 w) h
theorem wpList_eqS {ops : Array Oper} {Q : Exit → Act → World → Prop} {o : Oper} {r : List Oper} {a : Act} {w : World} {i j : Nat} {t2 : TypeId} {o1 o2 : StaC} (ho : o.op = .binOp .eql 36 (.tmp i) (.tmp j) t2) (hw : Region.wanted o (yielded ops a.tmps) = true)
    (hx : a.eval (.tmp i) = staV o1) (hy : a.eval (.tmp j) = staV o2) (b : Bool) (hb : tb (o1 = o2) = b) (h : wpList Tryd.prog ops Q r (a.put o.dst (.bool b)) w) : wpList Tryd.prog ops Q (o :: r) a w :=
  wpList_binB ho hw (by rw [hx, hy, ← hb]; exact sta_run' i j o1 o2 w) h
end
section
open Go.RowKit Go.Maps

set_option maxRecDepth 100000 in
set_option maxHeartbeats 16000000 in
theorem one_0 (a b : EvM) (w : World)  (hne : ¬ a.kind = b.kind) : Calls Tryd.prog 18 #[evV a, evV b] w (RetOne a b w) := by
  obtain ⟨C, hC⟩ : ∃ C, C = (evCs a).toArray := ⟨_, rfl⟩
  obtain ⟨D, hD⟩ : ∃ D, D = (evCs b).toArray := ⟨_, rfl⟩
  have hva : evV a = .agg C := by rw [hC]; rfl
  have hvb : evV b = .agg D := by rw [hD]; rfl
  have c0 : C[0]? = some (.int .i64 a.kind) := by rw [hC]; rfl
  have d0 : D[0]? = some (.int .i64 b.kind) := by rw [hD]; rfl
  rw [hva, hvb]
  have hb1 : Below w.heap.size w ((w.alloc (.cells C 41)).alloc (.cells D 41)) := ((Below.refl _ _).alloc (Nat.le_refl _) _).alloc (by simp) _
  have HB1 := Lib.hid hb1
  have ek : (a.kind == b.kind) = false := by simpa using hne
  have HNE := Lib.hid hne
  clear hC hD hva hvb hb1   hne 
  go_enter Tryd.func18, Tryd.ntmps18
  simp only [List.append]
  go_wp2_with fail
  go_ret
  exact ⟨ret_no (fun q => HNE.out (congrArg EvC.kind q)), HB1.out⟩
set_option maxRecDepth 100000 in
set_option maxHeartbeats 16000000 in
theorem one_1 (a b : EvM) (w : World) (h0 : a.kind = b.kind) (hne : ¬ a.tick = b.tick) : Calls Tryd.prog 18 #[evV a, evV b] w (RetOne a b w) := by
  obtain ⟨C, hC⟩ : ∃ C, C = (evCs a).toArray := ⟨_, rfl⟩
  obtain ⟨D, hD⟩ : ∃ D, D = (evCs b).toArray := ⟨_, rfl⟩
  have hva : evV a = .agg C := by rw [hC]; rfl
  have hvb : evV b = .agg D := by rw [hD]; rfl
  have c0 : C[0]? = some (.int .i64 a.kind) := by rw [hC]; rfl
  have d0 : D[0]? = some (.int .i64 a.kind) := by rw [hD, h0]; rfl
  have c1 : C[1]? = some (.int .i64 a.tick) := by rw [hC]; rfl
  have d1 : D[1]? = some (.int .i64 b.tick) := by rw [hD]; rfl
  rw [hva, hvb]
  have hb1 : Below w.heap.size w ((w.alloc (.cells C 41)).alloc (.cells D 41)) := ((Below.refl _ _).alloc (Nat.le_refl _) _).alloc (by simp) _
  have HB1 := Lib.hid hb1
  have ek : (a.tick == b.tick) = false := by simpa using hne
  have HNE := Lib.hid hne
  clear hC hD hva hvb hb1  h0 hne 
  go_enter Tryd.func18, Tryd.ntmps18
  simp only [List.append]
  go_wp2_with fail
  go_ret
  exact ⟨ret_no (fun q => HNE.out (congrArg EvC.tick q)), HB1.out⟩
set_option maxRecDepth 100000 in
set_option maxHeartbeats 16000000 in
theorem one_2 (a b : EvM) (w : World) (h0 : a.kind = b.kind) (h1 : a.tick = b.tick) (hne : ¬ a.who = b.who) : Calls Tryd.prog 18 #[evV a, evV b] w (RetOne a b w) := by
  obtain ⟨C, hC⟩ : ∃ C, C = (evCs a).toArray := ⟨_, rfl⟩
  obtain ⟨D, hD⟩ : ∃ D, D = (evCs b).toArray := ⟨_, rfl⟩
  have hva : evV a = .agg C := by rw [hC]; rfl
  have hvb : evV b = .agg D := by rw [hD]; rfl
  have c0 : C[0]? = some (.int .i64 a.kind) := by rw [hC]; rfl
  have d0 : D[0]? = some (.int .i64 a.kind) := by rw [hD, h0]; rfl
  have c1 : C[1]? = some (.int .i64 a.tick) := by rw [hC]; rfl
  have d1 : D[1]? = some (.int .i64 a.tick) := by rw [hD, h1]; rfl
  have c2 : C[2]? = some (.int .i64 a.who) := by rw [hC]; rfl
  have d2 : D[2]? = some (.int .i64 b.who) := by rw [hD]; rfl
  rw [hva, hvb]
  have hb1 : Below w.heap.size w ((w.alloc (.cells C 41)).alloc (.cells D 41)) := ((Below.refl _ _).alloc (Nat.le_refl _) _).alloc (by simp) _
  have HB1 := Lib.hid hb1
  have ek : (a.who == b.who) = false := by simpa using hne
  have HNE := Lib.hid hne
  clear hC hD hva hvb hb1  h0 h1 hne 
  go_enter Tryd.func18, Tryd.ntmps18
  simp only [List.append]
  go_wp2_with fail
  go_ret
  exact ⟨ret_no (fun q => HNE.out (congrArg EvC.who q)), HB1.out⟩
set_option maxRecDepth 100000 in
set_option maxHeartbeats 16000000 in
theorem one_3 (a b : EvM) (w : World) (h0 : a.kind = b.kind) (h1 : a.tick = b.tick) (h2 : a.who = b.who) (hne : ¬ a.call = b.call) : Calls Tryd.prog 18 #[evV a, evV b] w (RetOne a b w) := by
  obtain ⟨C, hC⟩ : ∃ C, C = (evCs a).toArray := ⟨_, rfl⟩
  obtain ⟨D, hD⟩ : ∃ D, D = (evCs b).toArray := ⟨_, rfl⟩
  have hva : evV a = .agg C := by rw [hC]; rfl
  have hvb : evV b = .agg D := by rw [hD]; rfl
  have c0 : C[0]? = some (.int .i64 a.kind) := by rw [hC]; rfl
  have d0 : D[0]? = some (.int .i64 a.kind) := by rw [hD, h0]; rfl
  have c1 : C[1]? = some (.int .i64 a.tick) := by rw [hC]; rfl
  have d1 : D[1]? = some (.int .i64 a.tick) := by rw [hD, h1]; rfl
  have c2 : C[2]? = some (.int .i64 a.who) := by rw [hC]; rfl
  have d2 : D[2]? = some (.int .i64 a.who) := by rw [hD, h2]; rfl
  have c3 : C[3]? = some (.int .i64 a.call) := by rw [hC]; rfl
  have d3 : D[3]? = some (.int .i64 b.call) := by rw [hD]; rfl
  rw [hva, hvb]
  have hb1 : Below w.heap.size w ((w.alloc (.cells C 41)).alloc (.cells D 41)) := ((Below.refl _ _).alloc (Nat.le_refl _) _).alloc (by simp) _
  have HB1 := Lib.hid hb1
  have ek : (a.call == b.call) = false := by simpa using hne
  have HNE := Lib.hid hne
  clear hC hD hva hvb hb1  h0 h1 h2 hne 
  go_enter Tryd.func18, Tryd.ntmps18
  simp only [List.append]
  go_wp2_with fail
  go_ret
  exact ⟨ret_no (fun q => HNE.out (congrArg EvC.call q)), HB1.out⟩
set_option maxRecDepth 100000 in
set_option maxHeartbeats 16000000 in
theorem one_4 (a b : EvM) (w : World) (h0 : a.kind = b.kind) (h1 : a.tick = b.tick) (h2 : a.who = b.who) (h3 : a.call = b.call) (hne : ¬ a.epoch = b.epoch) : Calls Tryd.prog 18 #[evV a, evV b] w (RetOne a b w) := by
  obtain ⟨C, hC⟩ : ∃ C, C = (evCs a).toArray := ⟨_, rfl⟩
  obtain ⟨D, hD⟩ : ∃ D, D = (evCs b).toArray := ⟨_, rfl⟩
  have hva : evV a = .agg C := by rw [hC]; rfl
  have hvb : evV b = .agg D := by rw [hD]; rfl
  have c0 : C[0]? = some (.int .i64 a.kind) := by rw [hC]; rfl
  have d0 : D[0]? = some (.int .i64 a.kind) := by rw [hD, h0]; rfl
  have c1 : C[1]? = some (.int .i64 a.tick) := by rw [hC]; rfl
  have d1 : D[1]? = some (.int .i64 a.tick) := by rw [hD, h1]; rfl
  have c2 : C[2]? = some (.int .i64 a.who) := by rw [hC]; rfl
  have d2 : D[2]? = some (.int .i64 a.who) := by rw [hD, h2]; rfl
  have c3 : C[3]? = some (.int .i64 a.call) := by rw [hC]; rfl
  have d3 : D[3]? = some (.int .i64 a.call) := by rw [hD, h3]; rfl
  have c4 : C[4]? = some (.int .i64 a.epoch) := by rw [hC]; rfl
  have d4 : D[4]? = some (.int .i64 b.epoch) := by rw [hD]; rfl
  rw [hva, hvb]
  have hb1 : Below w.heap.size w ((w.alloc (.cells C 41)).alloc (.cells D 41)) := ((Below.refl _ _).alloc (Nat.le_refl _) _).alloc (by simp) _
  have HB1 := Lib.hid hb1
  have ek : (a.epoch == b.epoch) = false := by simpa using hne
  have HNE := Lib.hid hne
  clear hC hD hva hvb hb1  h0 h1 h2 h3 hne 
  go_enter Tryd.func18, Tryd.ntmps18
  simp only [List.append]
  go_wp2_with fail
  go_ret
  exact ⟨ret_no (fun q => HNE.out (congrArg EvC.epoch q)), HB1.out⟩
end
section
open Go.RowKit Go.Maps

set_option maxRecDepth 100000 in
set_option maxHeartbeats 16000000 in
theorem one_5 (a b : EvM) (w : World) (h0 : a.kind = b.kind) (h1 : a.tick = b.tick) (h2 : a.who = b.who) (h3 : a.call = b.call) (h4 : a.epoch = b.epoch) (hne : ¬ a.n = b.n) : Calls Tryd.prog 18 #[evV a, evV b] w (RetOne a b w) := by
  obtain ⟨C, hC⟩ : ∃ C, C = (evCs a).toArray := ⟨_, rfl⟩
  obtain ⟨D, hD⟩ : ∃ D, D = (evCs b).toArray := ⟨_, rfl⟩
  have hva : evV a = .agg C := by rw [hC]; rfl
  have hvb : evV b = .agg D := by rw [hD]; rfl
  have c0 : C[0]? = some (.int .i64 a.kind) := by rw [hC]; rfl
  have d0 : D[0]? = some (.int .i64 a.kind) := by rw [hD, h0]; rfl
  have c1 : C[1]? = some (.int .i64 a.tick) := by rw [hC]; rfl
  have d1 : D[1]? = some (.int .i64 a.tick) := by rw [hD, h1]; rfl
  have c2 : C[2]? = some (.int .i64 a.who) := by rw [hC]; rfl
  have d2 : D[2]? = some (.int .i64 a.who) := by rw [hD, h2]; rfl
  have c3 : C[3]? = some (.int .i64 a.call) := by rw [hC]; rfl
  have d3 : D[3]? = some (.int .i64 a.call) := by rw [hD, h3]; rfl
  have c4 : C[4]? = some (.int .i64 a.epoch) := by rw [hC]; rfl
  have d4 : D[4]? = some (.int .i64 a.epoch) := by rw [hD, h4]; rfl
  have c5 : C[5]? = some (.int .i64 a.n) := by rw [hC]; rfl
  have d5 : D[5]? = some (.int .i64 b.n) := by rw [hD]; rfl
  rw [hva, hvb]
  have hb1 : Below w.heap.size w ((w.alloc (.cells C 41)).alloc (.cells D 41)) := ((Below.refl _ _).alloc (Nat.le_refl _) _).alloc (by simp) _
  have HB1 := Lib.hid hb1
  have ek : (a.n == b.n) = false := by simpa using hne
  have HNE := Lib.hid hne
  clear hC hD hva hvb hb1  h0 h1 h2 h3 h4 hne 
  go_enter Tryd.func18, Tryd.ntmps18
  simp only [List.append]
  go_wp2_with fail
  go_ret
  exact ⟨ret_no (fun q => HNE.out (congrArg EvC.n q)), HB1.out⟩
set_option maxRecDepth 100000 in
set_option maxHeartbeats 16000000 in
theorem one_6 (a b : EvM) (w : World) (h0 : a.kind = b.kind) (h1 : a.tick = b.tick) (h2 : a.who = b.who) (h3 : a.call = b.call) (h4 : a.epoch = b.epoch) (h5 : a.n = b.n) (hne : ¬ a.eterm = b.eterm) : Calls Tryd.prog 18 #[evV a, evV b] w (RetOne a b w) := by
  obtain ⟨C, hC⟩ : ∃ C, C = (evCs a).toArray := ⟨_, rfl⟩
  obtain ⟨D, hD⟩ : ∃ D, D = (evCs b).toArray := ⟨_, rfl⟩
  have hva : evV a = .agg C := by rw [hC]; rfl
  have hvb : evV b = .agg D := by rw [hD]; rfl
  have c0 : C[0]? = some (.int .i64 a.kind) := by rw [hC]; rfl
  have d0 : D[0]? = some (.int .i64 a.kind) := by rw [hD, h0]; rfl
  have c1 : C[1]? = some (.int .i64 a.tick) := by rw [hC]; rfl
  have d1 : D[1]? = some (.int .i64 a.tick) := by rw [hD, h1]; rfl
  have c2 : C[2]? = some (.int .i64 a.who) := by rw [hC]; rfl
  have d2 : D[2]? = some (.int .i64 a.who) := by rw [hD, h2]; rfl
  have c3 : C[3]? = some (.int .i64 a.call) := by rw [hC]; rfl
  have d3 : D[3]? = some (.int .i64 a.call) := by rw [hD, h3]; rfl
  have c4 : C[4]? = some (.int .i64 a.epoch) := by rw [hC]; rfl
  have d4 : D[4]? = some (.int .i64 a.epoch) := by rw [hD, h4]; rfl
  have c5 : C[5]? = some (.int .i64 a.n) := by rw [hC]; rfl
  have d5 : D[5]? = some (.int .i64 a.n) := by rw [hD, h5]; rfl
  have c6 : C[6]? = some (.int .i64 a.eterm) := by rw [hC]; rfl
  have d6 : D[6]? = some (.int .i64 b.eterm) := by rw [hD]; rfl
  rw [hva, hvb]
  have hb1 : Below w.heap.size w ((w.alloc (.cells C 41)).alloc (.cells D 41)) := ((Below.refl _ _).alloc (Nat.le_refl _) _).alloc (by simp) _
  have HB1 := Lib.hid hb1
  have ek : (a.eterm == b.eterm) = false := by simpa using hne
  have HNE := Lib.hid hne
  clear hC hD hva hvb hb1  h0 h1 h2 h3 h4 h5 hne 
  go_enter Tryd.func18, Tryd.ntmps18
  simp only [List.append]
  go_wp2_with fail
  go_ret
  exact ⟨ret_no (fun q => HNE.out (congrArg EvC.eterm q)), HB1.out⟩
set_option maxRecDepth 100000 in
set_option maxHeartbeats 16000000 in
theorem one_7 (a b : EvM) (w : World) (h0 : a.kind = b.kind) (h1 : a.tick = b.tick) (h2 : a.who = b.who) (h3 : a.call = b.call) (h4 : a.epoch = b.epoch) (h5 : a.n = b.n) (h6 : a.eterm = b.eterm) (hne : ¬ a.ekind = b.ekind) : Calls Tryd.prog 18 #[evV a, evV b] w (RetOne a b w) := by
  obtain ⟨C, hC⟩ : ∃ C, C = (evCs a).toArray := ⟨_, rfl⟩
  obtain ⟨D, hD⟩ : ∃ D, D = (evCs b).toArray := ⟨_, rfl⟩
  have hva : evV a = .agg C := by rw [hC]; rfl
  have hvb : evV b = .agg D := by rw [hD]; rfl
  have c0 : C[0]? = some (.int .i64 a.kind) := by rw [hC]; rfl
  have d0 : D[0]? = some (.int .i64 a.kind) := by rw [hD, h0]; rfl
  have c1 : C[1]? = some (.int .i64 a.tick) := by rw [hC]; rfl
  have d1 : D[1]? = some (.int .i64 a.tick) := by rw [hD, h1]; rfl
  have c2 : C[2]? = some (.int .i64 a.who) := by rw [hC]; rfl
  have d2 : D[2]? = some (.int .i64 a.who) := by rw [hD, h2]; rfl
  have c3 : C[3]? = some (.int .i64 a.call) := by rw [hC]; rfl
  have d3 : D[3]? = some (.int .i64 a.call) := by rw [hD, h3]; rfl
  have c4 : C[4]? = some (.int .i64 a.epoch) := by rw [hC]; rfl
  have d4 : D[4]? = some (.int .i64 a.epoch) := by rw [hD, h4]; rfl
  have c5 : C[5]? = some (.int .i64 a.n) := by rw [hC]; rfl
  have d5 : D[5]? = some (.int .i64 a.n) := by rw [hD, h5]; rfl
  have c6 : C[6]? = some (.int .i64 a.eterm) := by rw [hC]; rfl
  have d6 : D[6]? = some (.int .i64 a.eterm) := by rw [hD, h6]; rfl
  have c7 : C[7]? = some (.int .i64 a.ekind) := by rw [hC]; rfl
  have d7 : D[7]? = some (.int .i64 b.ekind) := by rw [hD]; rfl
  rw [hva, hvb]
  have hb1 : Below w.heap.size w ((w.alloc (.cells C 41)).alloc (.cells D 41)) := ((Below.refl _ _).alloc (Nat.le_refl _) _).alloc (by simp) _
  have HB1 := Lib.hid hb1
  have ek : (a.ekind == b.ekind) = false := by simpa using hne
  have HNE := Lib.hid hne
  clear hC hD hva hvb hb1  h0 h1 h2 h3 h4 h5 h6 hne 
  go_enter Tryd.func18, Tryd.ntmps18
  simp only [List.append]
  go_wp2_with fail
  go_ret
  exact ⟨ret_no (fun q => HNE.out (congrArg EvC.ekind q)), HB1.out⟩
end
section
open Go.RowKit Go.Maps

set_option maxRecDepth 100000 in
set_option maxHeartbeats 16000000 in
theorem one_8 (a b : EvM) (w : World) (BA BB : Nat) (ha : EvAt w BA a) (hb : EvAt w BB b) (hA : BA ≤ w.heap.size) (hB : BB ≤ w.heap.size) (h0 : a.kind = b.kind) (h1 : a.tick = b.tick) (h2 : a.who = b.who) (h3 : a.call = b.call) (h4 : a.epoch = b.epoch) (h5 : a.n = b.n) (h6 : a.eterm = b.eterm) (h7 : a.ekind = b.ekind) (hne : ¬ a.ebody = b.ebody) : Calls Tryd.prog 18 #[evV a, evV b] w (RetOne a b w) := by
  obtain ⟨C, hC⟩ : ∃ C, C = (evCs a).toArray := ⟨_, rfl⟩
  obtain ⟨D, hD⟩ : ∃ D, D = (evCs b).toArray := ⟨_, rfl⟩
  have hva : evV a = .agg C := by rw [hC]; rfl
  have hvb : evV b = .agg D := by rw [hD]; rfl
  have c0 : C[0]? = some (.int .i64 a.kind) := by rw [hC]; rfl
  have d0 : D[0]? = some (.int .i64 a.kind) := by rw [hD, h0]; rfl
  have c1 : C[1]? = some (.int .i64 a.tick) := by rw [hC]; rfl
  have d1 : D[1]? = some (.int .i64 a.tick) := by rw [hD, h1]; rfl
  have c2 : C[2]? = some (.int .i64 a.who) := by rw [hC]; rfl
  have d2 : D[2]? = some (.int .i64 a.who) := by rw [hD, h2]; rfl
  have c3 : C[3]? = some (.int .i64 a.call) := by rw [hC]; rfl
  have d3 : D[3]? = some (.int .i64 a.call) := by rw [hD, h3]; rfl
  have c4 : C[4]? = some (.int .i64 a.epoch) := by rw [hC]; rfl
  have d4 : D[4]? = some (.int .i64 a.epoch) := by rw [hD, h4]; rfl
  have c5 : C[5]? = some (.int .i64 a.n) := by rw [hC]; rfl
  have d5 : D[5]? = some (.int .i64 a.n) := by rw [hD, h5]; rfl
  have c6 : C[6]? = some (.int .i64 a.eterm) := by rw [hC]; rfl
  have d6 : D[6]? = some (.int .i64 a.eterm) := by rw [hD, h6]; rfl
  have c7 : C[7]? = some (.int .i64 a.ekind) := by rw [hC]; rfl
  have d7 : D[7]? = some (.int .i64 a.ekind) := by rw [hD, h7]; rfl
  have c8 : C[8]? = some (.slice a.eA a.ebody.length a.ec) := by rw [hC]; rfl
  have d8 : D[8]? = some (.slice b.eA b.ebody.length b.ec) := by rw [hD]; rfl
  rw [hva, hvb]
  have hb1 : Below w.heap.size w ((w.alloc (.cells C 41)).alloc (.cells D 41)) := ((Below.refl _ _).alloc (Nat.le_refl _) _).alloc (by simp) _
  have HB1 := Lib.hid hb1
  have S8 := Lib.hid (And.intro (bytes_str (Sl.below ha.body (hb1.mono hA)) a.ec) (bytes_str (Sl.below hb.body (hb1.mono hB)) b.ec))
  have e8 : ((bs a.ebody).toList == (bs b.ebody).toList) = false := str_ne (fun q => hne (bs_inj q))
  have e8b : ¬ (bs a.ebody).toList = (bs b.ebody).toList := fun q => by rw [q] at e8; simp at e8
  have HNE := Lib.hid hne
  clear hC hD hva hvb hb1 ha hb hA hB h0 h1 h2 h3 h4 h5 h6 h7 hne 
  go_enter Tryd.func18, Tryd.ntmps18
  simp only [List.append]
  go_wp2_with (first | ((with_reducible refine wpList_at 67 rfl ?_); (refine wpList_convV (v := .slice a.eA a.ebody.length a.ec) rfl rfl rfl S8.out.1 ?_; simp only [Act.put, List.setIfInBounds_toArray, List.set_cons_zero, List.set_cons_succ])) | ((with_reducible refine wpList_at 71 rfl ?_); (refine wpList_convV (v := .slice b.eA b.ebody.length b.ec) rfl rfl rfl S8.out.2 ?_; simp only [Act.put, List.setIfInBounds_toArray, List.set_cons_zero, List.set_cons_succ])))
  go_ret
  exact ⟨ret_no (fun q => HNE.out (congrArg EvC.ebody q)), HB1.out⟩
set_option maxRecDepth 100000 in
set_option maxHeartbeats 16000000 in
theorem one_9 (a b : EvM) (w : World) (BA BB : Nat) (ha : EvAt w BA a) (hb : EvAt w BB b) (hA : BA ≤ w.heap.size) (hB : BB ≤ w.heap.size) (h0 : a.kind = b.kind) (h1 : a.tick = b.tick) (h2 : a.who = b.who) (h3 : a.call = b.call) (h4 : a.epoch = b.epoch) (h5 : a.n = b.n) (h6 : a.eterm = b.eterm) (h7 : a.ekind = b.ekind) (h8 : a.ebody = b.ebody) (hne : ¬ a.ord = b.ord) : Calls Tryd.prog 18 #[evV a, evV b] w (RetOne a b w) := by
  obtain ⟨C, hC⟩ : ∃ C, C = (evCs a).toArray := ⟨_, rfl⟩
  obtain ⟨D, hD⟩ : ∃ D, D = (evCs b).toArray := ⟨_, rfl⟩
  have hva : evV a = .agg C := by rw [hC]; rfl
  have hvb : evV b = .agg D := by rw [hD]; rfl
  have c0 : C[0]? = some (.int .i64 a.kind) := by rw [hC]; rfl
  have d0 : D[0]? = some (.int .i64 a.kind) := by rw [hD, h0]; rfl
  have c1 : C[1]? = some (.int .i64 a.tick) := by rw [hC]; rfl
  have d1 : D[1]? = some (.int .i64 a.tick) := by rw [hD, h1]; rfl
  have c2 : C[2]? = some (.int .i64 a.who) := by rw [hC]; rfl
  have d2 : D[2]? = some (.int .i64 a.who) := by rw [hD, h2]; rfl
  have c3 : C[3]? = some (.int .i64 a.call) := by rw [hC]; rfl
  have d3 : D[3]? = some (.int .i64 a.call) := by rw [hD, h3]; rfl
  have c4 : C[4]? = some (.int .i64 a.epoch) := by rw [hC]; rfl
  have d4 : D[4]? = some (.int .i64 a.epoch) := by rw [hD, h4]; rfl
  have c5 : C[5]? = some (.int .i64 a.n) := by rw [hC]; rfl
  have d5 : D[5]? = some (.int .i64 a.n) := by rw [hD, h5]; rfl
  have c6 : C[6]? = some (.int .i64 a.eterm) := by rw [hC]; rfl
  have d6 : D[6]? = some (.int .i64 a.eterm) := by rw [hD, h6]; rfl
  have c7 : C[7]? = some (.int .i64 a.ekind) := by rw [hC]; rfl
  have d7 : D[7]? = some (.int .i64 a.ekind) := by rw [hD, h7]; rfl
  have c8 : C[8]? = some (.slice a.eA a.ebody.length a.ec) := by rw [hC]; rfl
  have d8 : D[8]? = some (.slice b.eA a.ebody.length b.ec) := by rw [hD, h8]; rfl
  have c9 : C[9]? = some (.int .i64 a.ord.unit) := by rw [hC]; rfl
  have d9 : D[9]? = some (.int .i64 b.ord.unit) := by rw [hD]; rfl
  have c10 : C[10]? = some (.int .i64 a.ord.epoch) := by rw [hC]; rfl
  have d10 : D[10]? = some (.int .i64 b.ord.epoch) := by rw [hD]; rfl
  have c11 : C[11]? = some (.int .i64 a.ord.kind) := by rw [hC]; rfl
  have d11 : D[11]? = some (.int .i64 b.ord.kind) := by rw [hD]; rfl
  have c12 : C[12]? = some (.int .i64 a.ord.incident) := by rw [hC]; rfl
  have d12 : D[12]? = some (.int .i64 b.ord.incident) := by rw [hD]; rfl
  have c13 : C[13]? = some (.int .i64 a.ord.node) := by rw [hC]; rfl
  have d13 : D[13]? = some (.int .i64 b.ord.node) := by rw [hD]; rfl
  rw [hva, hvb]
  have hb1 : Below w.heap.size w ((w.alloc (.cells C 41)).alloc (.cells D 41)) := ((Below.refl _ _).alloc (Nat.le_refl _) _).alloc (by simp) _
  have HB1 := Lib.hid hb1
  have S8 := Lib.hid (And.intro (bytes_str (Sl.below ha.body (hb1.mono hA)) a.ec) (bytes_str (Sl.below hb.body (hb1.mono hB)) b.ec))
  rw [← h8] at S8
  have HNE := Lib.hid hne
  clear hC hD hva hvb hb1 ha hb hA hB h0 h1 h2 h3 h4 h5 h6 h7 h8 hne 
  go_enter Tryd.func18, Tryd.ntmps18
  simp only [List.append]
  go_wp2_with (first | ((with_reducible refine wpList_at 67 rfl ?_); (refine wpList_convV (v := .slice a.eA a.ebody.length a.ec) rfl rfl rfl S8.out.1 ?_; simp only [Act.put, List.setIfInBounds_toArray, List.set_cons_zero, List.set_cons_succ])) | ((with_reducible refine wpList_at 71 rfl ?_); (refine wpList_convV (v := .slice b.eA a.ebody.length b.ec) rfl rfl rfl S8.out.2 ?_; simp only [Act.put, List.setIfInBounds_toArray, List.set_cons_zero, List.set_cons_succ])) | ((with_reducible refine wpList_at 79 rfl ?_); (refine wpList_eqO (o1 := a.ord) (o2 := b.ord) rfl rfl rfl rfl false (tb_false HNE.out) ?_; simp only [Act.put, List.setIfInBounds_toArray, List.set_cons_zero, List.set_cons_succ])))
  go_ret
  exact ⟨ret_no (fun q => HNE.out (congrArg EvC.ord q)), HB1.out⟩
end
section
open Go.RowKit Go.Maps

set_option maxRecDepth 100000 in
set_option maxHeartbeats 16000000 in
theorem one_10 (a b : EvM) (w : World) (BA BB : Nat) (ha : EvAt w BA a) (hb : EvAt w BB b) (hA : BA ≤ w.heap.size) (hB : BB ≤ w.heap.size) (h0 : a.kind = b.kind) (h1 : a.tick = b.tick) (h2 : a.who = b.who) (h3 : a.call = b.call) (h4 : a.epoch = b.epoch) (h5 : a.n = b.n) (h6 : a.eterm = b.eterm) (h7 : a.ekind = b.ekind) (h8 : a.ebody = b.ebody) (h9 : a.ord = b.ord) (hne : ¬ a.sta = b.sta) : Calls Tryd.prog 18 #[evV a, evV b] w (RetOne a b w) := by
  obtain ⟨C, hC⟩ : ∃ C, C = (evCs a).toArray := ⟨_, rfl⟩
  obtain ⟨D, hD⟩ : ∃ D, D = (evCs b).toArray := ⟨_, rfl⟩
  have hva : evV a = .agg C := by rw [hC]; rfl
  have hvb : evV b = .agg D := by rw [hD]; rfl
  have c0 : C[0]? = some (.int .i64 a.kind) := by rw [hC]; rfl
  have d0 : D[0]? = some (.int .i64 a.kind) := by rw [hD, h0]; rfl
  have c1 : C[1]? = some (.int .i64 a.tick) := by rw [hC]; rfl
  have d1 : D[1]? = some (.int .i64 a.tick) := by rw [hD, h1]; rfl
  have c2 : C[2]? = some (.int .i64 a.who) := by rw [hC]; rfl
  have d2 : D[2]? = some (.int .i64 a.who) := by rw [hD, h2]; rfl
  have c3 : C[3]? = some (.int .i64 a.call) := by rw [hC]; rfl
  have d3 : D[3]? = some (.int .i64 a.call) := by rw [hD, h3]; rfl
  have c4 : C[4]? = some (.int .i64 a.epoch) := by rw [hC]; rfl
  have d4 : D[4]? = some (.int .i64 a.epoch) := by rw [hD, h4]; rfl
  have c5 : C[5]? = some (.int .i64 a.n) := by rw [hC]; rfl
  have d5 : D[5]? = some (.int .i64 a.n) := by rw [hD, h5]; rfl
  have c6 : C[6]? = some (.int .i64 a.eterm) := by rw [hC]; rfl
  have d6 : D[6]? = some (.int .i64 a.eterm) := by rw [hD, h6]; rfl
  have c7 : C[7]? = some (.int .i64 a.ekind) := by rw [hC]; rfl
  have d7 : D[7]? = some (.int .i64 a.ekind) := by rw [hD, h7]; rfl
  have c8 : C[8]? = some (.slice a.eA a.ebody.length a.ec) := by rw [hC]; rfl
  have d8 : D[8]? = some (.slice b.eA a.ebody.length b.ec) := by rw [hD, h8]; rfl
  have c9 : C[9]? = some (.int .i64 a.ord.unit) := by rw [hC]; rfl
  have d9 : D[9]? = some (.int .i64 a.ord.unit) := by rw [hD, h9]; rfl
  have c10 : C[10]? = some (.int .i64 a.ord.epoch) := by rw [hC]; rfl
  have d10 : D[10]? = some (.int .i64 a.ord.epoch) := by rw [hD, h9]; rfl
  have c11 : C[11]? = some (.int .i64 a.ord.kind) := by rw [hC]; rfl
  have d11 : D[11]? = some (.int .i64 a.ord.kind) := by rw [hD, h9]; rfl
  have c12 : C[12]? = some (.int .i64 a.ord.incident) := by rw [hC]; rfl
  have d12 : D[12]? = some (.int .i64 a.ord.incident) := by rw [hD, h9]; rfl
  have c13 : C[13]? = some (.int .i64 a.ord.node) := by rw [hC]; rfl
  have d13 : D[13]? = some (.int .i64 a.ord.node) := by rw [hD, h9]; rfl
  have c14 : C[14]? = some (.int .i64 a.sta.unit) := by rw [hC]; rfl
  have d14 : D[14]? = some (.int .i64 b.sta.unit) := by rw [hD]; rfl
  have c15 : C[15]? = some (.int .i64 a.sta.seq) := by rw [hC]; rfl
  have d15 : D[15]? = some (.int .i64 b.sta.seq) := by rw [hD]; rfl
  have c16 : C[16]? = some (.int .i64 a.sta.state) := by rw [hC]; rfl
  have d16 : D[16]? = some (.int .i64 b.sta.state) := by rw [hD]; rfl
  have c17 : C[17]? = some (.int .i64 a.sta.node) := by rw [hC]; rfl
  have d17 : D[17]? = some (.int .i64 b.sta.node) := by rw [hD]; rfl
  have c18 : C[18]? = some (.int .i64 a.sta.epoch) := by rw [hC]; rfl
  have d18 : D[18]? = some (.int .i64 b.sta.epoch) := by rw [hD]; rfl
  rw [hva, hvb]
  have hb1 : Below w.heap.size w ((w.alloc (.cells C 41)).alloc (.cells D 41)) := ((Below.refl _ _).alloc (Nat.le_refl _) _).alloc (by simp) _
  have HB1 := Lib.hid hb1
  have S8 := Lib.hid (And.intro (bytes_str (Sl.below ha.body (hb1.mono hA)) a.ec) (bytes_str (Sl.below hb.body (hb1.mono hB)) b.ec))
  rw [← h8] at S8
  have HNE := Lib.hid hne
  clear hC hD hva hvb hb1 ha hb hA hB h0 h1 h2 h3 h4 h5 h6 h7 h8 h9 hne 
  go_enter Tryd.func18, Tryd.ntmps18
  simp only [List.append]
  go_wp2_with (first | ((with_reducible refine wpList_at 67 rfl ?_); (refine wpList_convV (v := .slice a.eA a.ebody.length a.ec) rfl rfl rfl S8.out.1 ?_; simp only [Act.put, List.setIfInBounds_toArray, List.set_cons_zero, List.set_cons_succ])) | ((with_reducible refine wpList_at 71 rfl ?_); (refine wpList_convV (v := .slice b.eA a.ebody.length b.ec) rfl rfl rfl S8.out.2 ?_; simp only [Act.put, List.setIfInBounds_toArray, List.set_cons_zero, List.set_cons_succ])) | ((with_reducible refine wpList_at 79 rfl ?_); (refine wpList_eqO (o1 := a.ord) (o2 := a.ord) rfl rfl rfl rfl true (tb_true rfl) ?_; simp only [Act.put, List.setIfInBounds_toArray, List.set_cons_zero, List.set_cons_succ])) | ((with_reducible refine wpList_at 86 rfl ?_); (refine wpList_eqS (o1 := a.sta) (o2 := b.sta) rfl rfl rfl rfl false (tb_false HNE.out) ?_; simp only [Act.put, List.setIfInBounds_toArray, List.set_cons_zero, List.set_cons_succ])))
  go_ret
  exact ⟨ret_no (fun q => HNE.out (congrArg EvC.sta q)), HB1.out⟩
set_option maxRecDepth 100000 in
set_option maxHeartbeats 16000000 in
theorem one_11 (a b : EvM) (w : World) (BA BB : Nat) (ha : EvAt w BA a) (hb : EvAt w BB b) (hA : BA ≤ w.heap.size) (hB : BB ≤ w.heap.size) (hl : ActL a.act) (h0 : a.kind = b.kind) (h1 : a.tick = b.tick) (h2 : a.who = b.who) (h3 : a.call = b.call) (h4 : a.epoch = b.epoch) (h5 : a.n = b.n) (h6 : a.eterm = b.eterm) (h7 : a.ekind = b.ekind) (h8 : a.ebody = b.ebody) (h9 : a.ord = b.ord) (h10 : a.sta = b.sta) (hne : ¬ a.act.con = b.act.con) : Calls Tryd.prog 18 #[evV a, evV b] w (RetOne a b w) := by
  obtain ⟨C, hC⟩ : ∃ C, C = (evCs a).toArray := ⟨_, rfl⟩
  obtain ⟨D, hD⟩ : ∃ D, D = (evCs b).toArray := ⟨_, rfl⟩
  have hva : evV a = .agg C := by rw [hC]; rfl
  have hvb : evV b = .agg D := by rw [hD]; rfl
  have c0 : C[0]? = some (.int .i64 a.kind) := by rw [hC]; rfl
  have d0 : D[0]? = some (.int .i64 a.kind) := by rw [hD, h0]; rfl
  have c1 : C[1]? = some (.int .i64 a.tick) := by rw [hC]; rfl
  have d1 : D[1]? = some (.int .i64 a.tick) := by rw [hD, h1]; rfl
  have c2 : C[2]? = some (.int .i64 a.who) := by rw [hC]; rfl
  have d2 : D[2]? = some (.int .i64 a.who) := by rw [hD, h2]; rfl
  have c3 : C[3]? = some (.int .i64 a.call) := by rw [hC]; rfl
  have d3 : D[3]? = some (.int .i64 a.call) := by rw [hD, h3]; rfl
  have c4 : C[4]? = some (.int .i64 a.epoch) := by rw [hC]; rfl
  have d4 : D[4]? = some (.int .i64 a.epoch) := by rw [hD, h4]; rfl
  have c5 : C[5]? = some (.int .i64 a.n) := by rw [hC]; rfl
  have d5 : D[5]? = some (.int .i64 a.n) := by rw [hD, h5]; rfl
  have c6 : C[6]? = some (.int .i64 a.eterm) := by rw [hC]; rfl
  have d6 : D[6]? = some (.int .i64 a.eterm) := by rw [hD, h6]; rfl
  have c7 : C[7]? = some (.int .i64 a.ekind) := by rw [hC]; rfl
  have d7 : D[7]? = some (.int .i64 a.ekind) := by rw [hD, h7]; rfl
  have c8 : C[8]? = some (.slice a.eA a.ebody.length a.ec) := by rw [hC]; rfl
  have d8 : D[8]? = some (.slice b.eA a.ebody.length b.ec) := by rw [hD, h8]; rfl
  have c9 : C[9]? = some (.int .i64 a.ord.unit) := by rw [hC]; rfl
  have d9 : D[9]? = some (.int .i64 a.ord.unit) := by rw [hD, h9]; rfl
  have c10 : C[10]? = some (.int .i64 a.ord.epoch) := by rw [hC]; rfl
  have d10 : D[10]? = some (.int .i64 a.ord.epoch) := by rw [hD, h9]; rfl
  have c11 : C[11]? = some (.int .i64 a.ord.kind) := by rw [hC]; rfl
  have d11 : D[11]? = some (.int .i64 a.ord.kind) := by rw [hD, h9]; rfl
  have c12 : C[12]? = some (.int .i64 a.ord.incident) := by rw [hC]; rfl
  have d12 : D[12]? = some (.int .i64 a.ord.incident) := by rw [hD, h9]; rfl
  have c13 : C[13]? = some (.int .i64 a.ord.node) := by rw [hC]; rfl
  have d13 : D[13]? = some (.int .i64 a.ord.node) := by rw [hD, h9]; rfl
  have c14 : C[14]? = some (.int .i64 a.sta.unit) := by rw [hC]; rfl
  have d14 : D[14]? = some (.int .i64 a.sta.unit) := by rw [hD, h10]; rfl
  have c15 : C[15]? = some (.int .i64 a.sta.seq) := by rw [hC]; rfl
  have d15 : D[15]? = some (.int .i64 a.sta.seq) := by rw [hD, h10]; rfl
  have c16 : C[16]? = some (.int .i64 a.sta.state) := by rw [hC]; rfl
  have d16 : D[16]? = some (.int .i64 a.sta.state) := by rw [hD, h10]; rfl
  have c17 : C[17]? = some (.int .i64 a.sta.node) := by rw [hC]; rfl
  have d17 : D[17]? = some (.int .i64 a.sta.node) := by rw [hD, h10]; rfl
  have c18 : C[18]? = some (.int .i64 a.sta.epoch) := by rw [hC]; rfl
  have d18 : D[18]? = some (.int .i64 a.sta.epoch) := by rw [hD, h10]; rfl
  have c19 : C[19]? = some (.int .i64 a.act.kind) := by rw [hC]; rfl
  have d19 : D[19]? = some (.int .i64 b.act.kind) := by rw [hD]; rfl
  have c20 : C[20]? = some (.int .i64 a.act.who) := by rw [hC]; rfl
  have d20 : D[20]? = some (.int .i64 b.act.who) := by rw [hD]; rfl
  have c21 : C[21]? = some (.int .i64 a.act.n) := by rw [hC]; rfl
  have d21 : D[21]? = some (.int .i64 b.act.n) := by rw [hD]; rfl
  have c22 : C[22]? = some (.int .i64 a.act.call) := by rw [hC]; rfl
  have d22 : D[22]? = some (.int .i64 b.act.call) := by rw [hD]; rfl
  have c23 : C[23]? = some (.int .i64 a.act.other) := by rw [hC]; rfl
  have d23 : D[23]? = some (.int .i64 b.act.other) := by rw [hD]; rfl
  have c24 : C[24]? = some (.int .i64 a.act.node) := by rw [hC]; rfl
  have d24 : D[24]? = some (.int .i64 b.act.node) := by rw [hD]; rfl
  have c25 : C[25]? = some (.slice a.act.sA a.act.srcs.length a.act.sc) := by rw [hC]; rfl
  have d25 : D[25]? = some (.slice b.act.sA b.act.srcs.length b.act.sc) := by rw [hD]; rfl
  have c26 : C[26]? = some (.slice a.act.gA a.act.groups.length a.act.gc) := by rw [hC]; rfl
  have d26 : D[26]? = some (.slice b.act.gA b.act.groups.length b.act.gc) := by rw [hD]; rfl
  rw [hva, hvb]
  have hb1 : Below w.heap.size w ((w.alloc (.cells C 41)).alloc (.cells D 41)) := ((Below.refl _ _).alloc (Nat.le_refl _) _).alloc (by simp) _
  have HB1 := Lib.hid hb1
  have S8 := Lib.hid (And.intro (bytes_str (Sl.below ha.body (hb1.mono hA)) a.ec) (bytes_str (Sl.below hb.body (hb1.mono hB)) b.ec))
  rw [← h8] at S8
  obtain ⟨W1, hW1⟩ : ∃ W1, W1 = ((w.alloc (.cells C 41)).alloc (.cells D 41)) := ⟨_, rfl⟩
  have HC19 := Lib.hid (sameAct_any a.act b.act W1 BA BB (ha.act.below (by rw [hW1]; exact hb1.mono hA)) (hb.act.below (by rw [hW1]; exact hb1.mono hB)) (by rw [hW1]; exact Nat.le_trans hA hb1.size) (by rw [hW1]; exact Nat.le_trans hB hb1.size) hl.ns hl.nn hl.ng)
  unfold actV at HC19
  rw [tb_false hne] at HC19
  have HBY := Lib.hid (And.intro ha.bytes (And.intro hb.bytes (And.intro hA hB)))
  have HPQ : Hid (W1.cell? ⟨w.heap.size, 27, none⟩ = some (.slice a.bA a.bytes.length a.bc) ∧ W1.cell? ⟨w.heap.size + 1, 27, none⟩ = some (.slice b.bA b.bytes.length b.bc) ∧ w.heap.size + 1 < W1.heap.size) := Lib.hid (by
    obtain ⟨h1, h2, _, h4⟩ := two_boxes w (evCs a) (evCs b) 41 41 W1 (by rw [hW1, hC, hD])
    exact ⟨h1 27 _ rfl, h2 27 _ rfl, h4⟩)
  have HW := Lib.hid hW1
  have HNE := Lib.hid hne
  clear hC hD hva hvb hb1 ha hb hA hB hl h0 h1 h2 h3 h4 h5 h6 h7 h8 h9 h10 hne hW1
  go_enter Tryd.func18, Tryd.ntmps18
  simp only [List.append]
  go_wp2_with (first | ((with_reducible refine wpList_at 67 rfl ?_); (refine wpList_convV (v := .slice a.eA a.ebody.length a.ec) rfl rfl rfl S8.out.1 ?_; simp only [Act.put, List.setIfInBounds_toArray, List.set_cons_zero, List.set_cons_succ])) | ((with_reducible refine wpList_at 71 rfl ?_); (refine wpList_convV (v := .slice b.eA a.ebody.length b.ec) rfl rfl rfl S8.out.2 ?_; simp only [Act.put, List.setIfInBounds_toArray, List.set_cons_zero, List.set_cons_succ])) | ((with_reducible refine wpList_at 79 rfl ?_); (refine wpList_eqO (o1 := a.ord) (o2 := a.ord) rfl rfl rfl rfl true (tb_true rfl) ?_; simp only [Act.put, List.setIfInBounds_toArray, List.set_cons_zero, List.set_cons_succ])) | ((with_reducible refine wpList_at 86 rfl ?_); (refine wpList_eqS (o1 := a.sta) (o2 := a.sta) rfl rfl rfl rfl true (tb_true rfl) ?_; simp only [Act.put, List.setIfInBounds_toArray, List.set_cons_zero, List.set_cons_succ])))
  rw [← HW.out]
  refine HC19.out.mono ?_
  rintro e V ⟨rfl, hbv⟩
  have HV := Lib.hid (show Below w.heap.size w V from HB1.out.trans ((HW.out ▸ hbv).mono HB1.out.size))
  clear hbv c0 d0 c1 d1 c2 d2 c3 d3 c4 d4 c5 d5 c6 d6 c7 d7 c8 d8 c9 d9 c10 d10 c11 d11 c12 d12 c13 d13 c14 d14 c15 d15 c16 d16 c17 d17 c18 d18 c19 d19 c20 d20 c21 d21 c22 d22 c23 d23 c24 d24 c25 d25 c26 d26
  go_wp2_with fail
  go_ret
  exact ⟨ret_no (fun q => HNE.out (congrArg EvC.act q)), HV.out⟩
end
section
open Go.RowKit Go.Maps

set_option maxRecDepth 100000 in
set_option maxHeartbeats 16000000 in
theorem one_12 (a b : EvM) (w : World) (BA BB : Nat) (ha : EvAt w BA a) (hb : EvAt w BB b) (hA : BA ≤ w.heap.size) (hB : BB ≤ w.heap.size) (hl : ActL a.act) (h0 : a.kind = b.kind) (h1 : a.tick = b.tick) (h2 : a.who = b.who) (h3 : a.call = b.call) (h4 : a.epoch = b.epoch) (h5 : a.n = b.n) (h6 : a.eterm = b.eterm) (h7 : a.ekind = b.ekind) (h8 : a.ebody = b.ebody) (h9 : a.ord = b.ord) (h10 : a.sta = b.sta) (h11 : a.act.con = b.act.con) (hne : ¬ a.bytes = b.bytes) : Calls Tryd.prog 18 #[evV a, evV b] w (RetOne a b w) := by
  obtain ⟨C, hC⟩ : ∃ C, C = (evCs a).toArray := ⟨_, rfl⟩
  obtain ⟨D, hD⟩ : ∃ D, D = (evCs b).toArray := ⟨_, rfl⟩
  have hva : evV a = .agg C := by rw [hC]; rfl
  have hvb : evV b = .agg D := by rw [hD]; rfl
  have c0 : C[0]? = some (.int .i64 a.kind) := by rw [hC]; rfl
  have d0 : D[0]? = some (.int .i64 a.kind) := by rw [hD, h0]; rfl
  have c1 : C[1]? = some (.int .i64 a.tick) := by rw [hC]; rfl
  have d1 : D[1]? = some (.int .i64 a.tick) := by rw [hD, h1]; rfl
  have c2 : C[2]? = some (.int .i64 a.who) := by rw [hC]; rfl
  have d2 : D[2]? = some (.int .i64 a.who) := by rw [hD, h2]; rfl
  have c3 : C[3]? = some (.int .i64 a.call) := by rw [hC]; rfl
  have d3 : D[3]? = some (.int .i64 a.call) := by rw [hD, h3]; rfl
  have c4 : C[4]? = some (.int .i64 a.epoch) := by rw [hC]; rfl
  have d4 : D[4]? = some (.int .i64 a.epoch) := by rw [hD, h4]; rfl
  have c5 : C[5]? = some (.int .i64 a.n) := by rw [hC]; rfl
  have d5 : D[5]? = some (.int .i64 a.n) := by rw [hD, h5]; rfl
  have c6 : C[6]? = some (.int .i64 a.eterm) := by rw [hC]; rfl
  have d6 : D[6]? = some (.int .i64 a.eterm) := by rw [hD, h6]; rfl
  have c7 : C[7]? = some (.int .i64 a.ekind) := by rw [hC]; rfl
  have d7 : D[7]? = some (.int .i64 a.ekind) := by rw [hD, h7]; rfl
  have c8 : C[8]? = some (.slice a.eA a.ebody.length a.ec) := by rw [hC]; rfl
  have d8 : D[8]? = some (.slice b.eA a.ebody.length b.ec) := by rw [hD, h8]; rfl
  have c9 : C[9]? = some (.int .i64 a.ord.unit) := by rw [hC]; rfl
  have d9 : D[9]? = some (.int .i64 a.ord.unit) := by rw [hD, h9]; rfl
  have c10 : C[10]? = some (.int .i64 a.ord.epoch) := by rw [hC]; rfl
  have d10 : D[10]? = some (.int .i64 a.ord.epoch) := by rw [hD, h9]; rfl
  have c11 : C[11]? = some (.int .i64 a.ord.kind) := by rw [hC]; rfl
  have d11 : D[11]? = some (.int .i64 a.ord.kind) := by rw [hD, h9]; rfl
  have c12 : C[12]? = some (.int .i64 a.ord.incident) := by rw [hC]; rfl
  have d12 : D[12]? = some (.int .i64 a.ord.incident) := by rw [hD, h9]; rfl
  have c13 : C[13]? = some (.int .i64 a.ord.node) := by rw [hC]; rfl
  have d13 : D[13]? = some (.int .i64 a.ord.node) := by rw [hD, h9]; rfl
  have c14 : C[14]? = some (.int .i64 a.sta.unit) := by rw [hC]; rfl
  have d14 : D[14]? = some (.int .i64 a.sta.unit) := by rw [hD, h10]; rfl
  have c15 : C[15]? = some (.int .i64 a.sta.seq) := by rw [hC]; rfl
  have d15 : D[15]? = some (.int .i64 a.sta.seq) := by rw [hD, h10]; rfl
  have c16 : C[16]? = some (.int .i64 a.sta.state) := by rw [hC]; rfl
  have d16 : D[16]? = some (.int .i64 a.sta.state) := by rw [hD, h10]; rfl
  have c17 : C[17]? = some (.int .i64 a.sta.node) := by rw [hC]; rfl
  have d17 : D[17]? = some (.int .i64 a.sta.node) := by rw [hD, h10]; rfl
  have c18 : C[18]? = some (.int .i64 a.sta.epoch) := by rw [hC]; rfl
  have d18 : D[18]? = some (.int .i64 a.sta.epoch) := by rw [hD, h10]; rfl
  have c19 : C[19]? = some (.int .i64 a.act.kind) := by rw [hC]; rfl
  have d19 : D[19]? = some (.int .i64 b.act.kind) := by rw [hD]; rfl
  have c20 : C[20]? = some (.int .i64 a.act.who) := by rw [hC]; rfl
  have d20 : D[20]? = some (.int .i64 b.act.who) := by rw [hD]; rfl
  have c21 : C[21]? = some (.int .i64 a.act.n) := by rw [hC]; rfl
  have d21 : D[21]? = some (.int .i64 b.act.n) := by rw [hD]; rfl
  have c22 : C[22]? = some (.int .i64 a.act.call) := by rw [hC]; rfl
  have d22 : D[22]? = some (.int .i64 b.act.call) := by rw [hD]; rfl
  have c23 : C[23]? = some (.int .i64 a.act.other) := by rw [hC]; rfl
  have d23 : D[23]? = some (.int .i64 b.act.other) := by rw [hD]; rfl
  have c24 : C[24]? = some (.int .i64 a.act.node) := by rw [hC]; rfl
  have d24 : D[24]? = some (.int .i64 b.act.node) := by rw [hD]; rfl
  have c25 : C[25]? = some (.slice a.act.sA a.act.srcs.length a.act.sc) := by rw [hC]; rfl
  have d25 : D[25]? = some (.slice b.act.sA b.act.srcs.length b.act.sc) := by rw [hD]; rfl
  have c26 : C[26]? = some (.slice a.act.gA a.act.groups.length a.act.gc) := by rw [hC]; rfl
  have d26 : D[26]? = some (.slice b.act.gA b.act.groups.length b.act.gc) := by rw [hD]; rfl
  rw [hva, hvb]
  have hb1 : Below w.heap.size w ((w.alloc (.cells C 41)).alloc (.cells D 41)) := ((Below.refl _ _).alloc (Nat.le_refl _) _).alloc (by simp) _
  have HB1 := Lib.hid hb1
  have S8 := Lib.hid (And.intro (bytes_str (Sl.below ha.body (hb1.mono hA)) a.ec) (bytes_str (Sl.below hb.body (hb1.mono hB)) b.ec))
  rw [← h8] at S8
  obtain ⟨W1, hW1⟩ : ∃ W1, W1 = ((w.alloc (.cells C 41)).alloc (.cells D 41)) := ⟨_, rfl⟩
  have HC19 := Lib.hid (sameAct_any a.act b.act W1 BA BB (ha.act.below (by rw [hW1]; exact hb1.mono hA)) (hb.act.below (by rw [hW1]; exact hb1.mono hB)) (by rw [hW1]; exact Nat.le_trans hA hb1.size) (by rw [hW1]; exact Nat.le_trans hB hb1.size) hl.ns hl.nn hl.ng)
  unfold actV at HC19
  rw [tb_true h11] at HC19
  have HBY := Lib.hid (And.intro ha.bytes (And.intro hb.bytes (And.intro hA hB)))
  have HPQ : Hid (W1.cell? ⟨w.heap.size, 27, none⟩ = some (.slice a.bA a.bytes.length a.bc) ∧ W1.cell? ⟨w.heap.size + 1, 27, none⟩ = some (.slice b.bA b.bytes.length b.bc) ∧ w.heap.size + 1 < W1.heap.size) := Lib.hid (by
    obtain ⟨h1, h2, _, h4⟩ := two_boxes w (evCs a) (evCs b) 41 41 W1 (by rw [hW1, hC, hD])
    exact ⟨h1 27 _ rfl, h2 27 _ rfl, h4⟩)
  have HW := Lib.hid hW1
  have HNE := Lib.hid hne
  have H12 := Lib.hid hne
  clear hC hD hva hvb hb1 ha hb hA hB hl h0 h1 h2 h3 h4 h5 h6 h7 h8 h9 h10 h11 hne hW1
  go_enter Tryd.func18, Tryd.ntmps18
  simp only [List.append]
  go_wp2_with (first | ((with_reducible refine wpList_at 67 rfl ?_); (refine wpList_convV (v := .slice a.eA a.ebody.length a.ec) rfl rfl rfl S8.out.1 ?_; simp only [Act.put, List.setIfInBounds_toArray, List.set_cons_zero, List.set_cons_succ])) | ((with_reducible refine wpList_at 71 rfl ?_); (refine wpList_convV (v := .slice b.eA a.ebody.length b.ec) rfl rfl rfl S8.out.2 ?_; simp only [Act.put, List.setIfInBounds_toArray, List.set_cons_zero, List.set_cons_succ])) | ((with_reducible refine wpList_at 79 rfl ?_); (refine wpList_eqO (o1 := a.ord) (o2 := a.ord) rfl rfl rfl rfl true (tb_true rfl) ?_; simp only [Act.put, List.setIfInBounds_toArray, List.set_cons_zero, List.set_cons_succ])) | ((with_reducible refine wpList_at 86 rfl ?_); (refine wpList_eqS (o1 := a.sta) (o2 := a.sta) rfl rfl rfl rfl true (tb_true rfl) ?_; simp only [Act.put, List.setIfInBounds_toArray, List.set_cons_zero, List.set_cons_succ])))
  rw [← HW.out]
  refine HC19.out.mono ?_
  rintro e V ⟨rfl, hbv⟩
  have HV := Lib.hid (show Below w.heap.size w V from HB1.out.trans ((HW.out ▸ hbv).mono HB1.out.size))
  have p27 := (hbv.cell (p := ⟨w.heap.size, 27, none⟩) (by have := HPQ.out.2.2; show w.heap.size < _; omega)).trans HPQ.out.1
  have q27 := (hbv.cell (p := ⟨w.heap.size + 1, 27, none⟩) HPQ.out.2.2).trans HPQ.out.2.1
  have s20a := bytes_str (Sl.below HBY.out.1 (HV.out.mono HBY.out.2.2.1)) a.bc
  have s20b := bytes_str (Sl.below HBY.out.2.1 (HV.out.mono HBY.out.2.2.2)) b.bc
  have e20 : ((bs a.bytes).toList == (bs b.bytes).toList) = false := str_ne (fun q => H12.out (bs_inj q))
  clear hbv c0 d0 c1 d1 c2 d2 c3 d3 c4 d4 c5 d5 c6 d6 c7 d7 c8 d8 c9 d9 c10 d10 c11 d11 c12 d12 c13 d13 c14 d14 c15 d15 c16 d16 c17 d17 c18 d18 c19 d19 c20 d20 c21 d21 c22 d22 c23 d23 c24 d24 c25 d25 c26 d26
  go_wp2_with fail
  go_ret
  exact ⟨ret_no (fun q => HNE.out (congrArg EvC.bytes q)), HV.out⟩
end
section
open Go.RowKit Go.Maps

set_option maxRecDepth 100000 in
set_option maxHeartbeats 16000000 in
theorem one_13 (a b : EvM) (w : World) (BA BB : Nat) (ha : EvAt w BA a) (hb : EvAt w BB b) (hA : BA ≤ w.heap.size) (hB : BB ≤ w.heap.size) (hl : ActL a.act) (h0 : a.kind = b.kind) (h1 : a.tick = b.tick) (h2 : a.who = b.who) (h3 : a.call = b.call) (h4 : a.epoch = b.epoch) (h5 : a.n = b.n) (h6 : a.eterm = b.eterm) (h7 : a.ekind = b.ekind) (h8 : a.ebody = b.ebody) (h9 : a.ord = b.ord) (h10 : a.sta = b.sta) (h11 : a.act.con = b.act.con) (h12 : a.bytes = b.bytes) : Calls Tryd.prog 18 #[evV a, evV b] w (RetOne a b w) := by
  obtain ⟨C, hC⟩ : ∃ C, C = (evCs a).toArray := ⟨_, rfl⟩
  obtain ⟨D, hD⟩ : ∃ D, D = (evCs b).toArray := ⟨_, rfl⟩
  have hva : evV a = .agg C := by rw [hC]; rfl
  have hvb : evV b = .agg D := by rw [hD]; rfl
  have c0 : C[0]? = some (.int .i64 a.kind) := by rw [hC]; rfl
  have d0 : D[0]? = some (.int .i64 a.kind) := by rw [hD, h0]; rfl
  have c1 : C[1]? = some (.int .i64 a.tick) := by rw [hC]; rfl
  have d1 : D[1]? = some (.int .i64 a.tick) := by rw [hD, h1]; rfl
  have c2 : C[2]? = some (.int .i64 a.who) := by rw [hC]; rfl
  have d2 : D[2]? = some (.int .i64 a.who) := by rw [hD, h2]; rfl
  have c3 : C[3]? = some (.int .i64 a.call) := by rw [hC]; rfl
  have d3 : D[3]? = some (.int .i64 a.call) := by rw [hD, h3]; rfl
  have c4 : C[4]? = some (.int .i64 a.epoch) := by rw [hC]; rfl
  have d4 : D[4]? = some (.int .i64 a.epoch) := by rw [hD, h4]; rfl
  have c5 : C[5]? = some (.int .i64 a.n) := by rw [hC]; rfl
  have d5 : D[5]? = some (.int .i64 a.n) := by rw [hD, h5]; rfl
  have c6 : C[6]? = some (.int .i64 a.eterm) := by rw [hC]; rfl
  have d6 : D[6]? = some (.int .i64 a.eterm) := by rw [hD, h6]; rfl
  have c7 : C[7]? = some (.int .i64 a.ekind) := by rw [hC]; rfl
  have d7 : D[7]? = some (.int .i64 a.ekind) := by rw [hD, h7]; rfl
  have c8 : C[8]? = some (.slice a.eA a.ebody.length a.ec) := by rw [hC]; rfl
  have d8 : D[8]? = some (.slice b.eA a.ebody.length b.ec) := by rw [hD, h8]; rfl
  have c9 : C[9]? = some (.int .i64 a.ord.unit) := by rw [hC]; rfl
  have d9 : D[9]? = some (.int .i64 a.ord.unit) := by rw [hD, h9]; rfl
  have c10 : C[10]? = some (.int .i64 a.ord.epoch) := by rw [hC]; rfl
  have d10 : D[10]? = some (.int .i64 a.ord.epoch) := by rw [hD, h9]; rfl
  have c11 : C[11]? = some (.int .i64 a.ord.kind) := by rw [hC]; rfl
  have d11 : D[11]? = some (.int .i64 a.ord.kind) := by rw [hD, h9]; rfl
  have c12 : C[12]? = some (.int .i64 a.ord.incident) := by rw [hC]; rfl
  have d12 : D[12]? = some (.int .i64 a.ord.incident) := by rw [hD, h9]; rfl
  have c13 : C[13]? = some (.int .i64 a.ord.node) := by rw [hC]; rfl
  have d13 : D[13]? = some (.int .i64 a.ord.node) := by rw [hD, h9]; rfl
  have c14 : C[14]? = some (.int .i64 a.sta.unit) := by rw [hC]; rfl
  have d14 : D[14]? = some (.int .i64 a.sta.unit) := by rw [hD, h10]; rfl
  have c15 : C[15]? = some (.int .i64 a.sta.seq) := by rw [hC]; rfl
  have d15 : D[15]? = some (.int .i64 a.sta.seq) := by rw [hD, h10]; rfl
  have c16 : C[16]? = some (.int .i64 a.sta.state) := by rw [hC]; rfl
  have d16 : D[16]? = some (.int .i64 a.sta.state) := by rw [hD, h10]; rfl
  have c17 : C[17]? = some (.int .i64 a.sta.node) := by rw [hC]; rfl
  have d17 : D[17]? = some (.int .i64 a.sta.node) := by rw [hD, h10]; rfl
  have c18 : C[18]? = some (.int .i64 a.sta.epoch) := by rw [hC]; rfl
  have d18 : D[18]? = some (.int .i64 a.sta.epoch) := by rw [hD, h10]; rfl
  have c19 : C[19]? = some (.int .i64 a.act.kind) := by rw [hC]; rfl
  have d19 : D[19]? = some (.int .i64 b.act.kind) := by rw [hD]; rfl
  have c20 : C[20]? = some (.int .i64 a.act.who) := by rw [hC]; rfl
  have d20 : D[20]? = some (.int .i64 b.act.who) := by rw [hD]; rfl
  have c21 : C[21]? = some (.int .i64 a.act.n) := by rw [hC]; rfl
  have d21 : D[21]? = some (.int .i64 b.act.n) := by rw [hD]; rfl
  have c22 : C[22]? = some (.int .i64 a.act.call) := by rw [hC]; rfl
  have d22 : D[22]? = some (.int .i64 b.act.call) := by rw [hD]; rfl
  have c23 : C[23]? = some (.int .i64 a.act.other) := by rw [hC]; rfl
  have d23 : D[23]? = some (.int .i64 b.act.other) := by rw [hD]; rfl
  have c24 : C[24]? = some (.int .i64 a.act.node) := by rw [hC]; rfl
  have d24 : D[24]? = some (.int .i64 b.act.node) := by rw [hD]; rfl
  have c25 : C[25]? = some (.slice a.act.sA a.act.srcs.length a.act.sc) := by rw [hC]; rfl
  have d25 : D[25]? = some (.slice b.act.sA b.act.srcs.length b.act.sc) := by rw [hD]; rfl
  have c26 : C[26]? = some (.slice a.act.gA a.act.groups.length a.act.gc) := by rw [hC]; rfl
  have d26 : D[26]? = some (.slice b.act.gA b.act.groups.length b.act.gc) := by rw [hD]; rfl
  rw [hva, hvb]
  have hb1 : Below w.heap.size w ((w.alloc (.cells C 41)).alloc (.cells D 41)) := ((Below.refl _ _).alloc (Nat.le_refl _) _).alloc (by simp) _
  have HB1 := Lib.hid hb1
  have S8 := Lib.hid (And.intro (bytes_str (Sl.below ha.body (hb1.mono hA)) a.ec) (bytes_str (Sl.below hb.body (hb1.mono hB)) b.ec))
  rw [← h8] at S8
  obtain ⟨W1, hW1⟩ : ∃ W1, W1 = ((w.alloc (.cells C 41)).alloc (.cells D 41)) := ⟨_, rfl⟩
  have HC19 := Lib.hid (sameAct_any a.act b.act W1 BA BB (ha.act.below (by rw [hW1]; exact hb1.mono hA)) (hb.act.below (by rw [hW1]; exact hb1.mono hB)) (by rw [hW1]; exact Nat.le_trans hA hb1.size) (by rw [hW1]; exact Nat.le_trans hB hb1.size) hl.ns hl.nn hl.ng)
  unfold actV at HC19
  rw [tb_true h11] at HC19
  have HBY := Lib.hid (And.intro ha.bytes (And.intro hb.bytes (And.intro hA hB)))
  have HPQ : Hid (W1.cell? ⟨w.heap.size, 27, none⟩ = some (.slice a.bA a.bytes.length a.bc) ∧ W1.cell? ⟨w.heap.size + 1, 27, none⟩ = some (.slice b.bA b.bytes.length b.bc) ∧ w.heap.size + 1 < W1.heap.size) := Lib.hid (by
    obtain ⟨h1, h2, _, h4⟩ := two_boxes w (evCs a) (evCs b) 41 41 W1 (by rw [hW1, hC, hD])
    exact ⟨h1 27 _ rfl, h2 27 _ rfl, h4⟩)
  have HW := Lib.hid hW1
  have HEQ : Hid (a.con = b.con) := Lib.hid (by
    obtain ⟨o1, o2, o3, o4, o5⟩ := (ord_iff _ _).1 h9
    obtain ⟨s1, s2, s3, s4, s5⟩ := (sta_iff _ _).1 h10
    exact (evc_iff a b).2 ⟨h0, h1, h2, h3, h4, h5, h6, h7, h8, o1, o2, o3, o4, o5, s1, s2, s3, s4, s5, h11, h12⟩)
  have H12 := Lib.hid h12
  clear hC hD hva hvb hb1 ha hb hA hB hl h0 h1 h2 h3 h4 h5 h6 h7 h8 h9 h10 h11 h12  hW1
  go_enter Tryd.func18, Tryd.ntmps18
  simp only [List.append]
  go_wp2_with (first | ((with_reducible refine wpList_at 67 rfl ?_); (refine wpList_convV (v := .slice a.eA a.ebody.length a.ec) rfl rfl rfl S8.out.1 ?_; simp only [Act.put, List.setIfInBounds_toArray, List.set_cons_zero, List.set_cons_succ])) | ((with_reducible refine wpList_at 71 rfl ?_); (refine wpList_convV (v := .slice b.eA a.ebody.length b.ec) rfl rfl rfl S8.out.2 ?_; simp only [Act.put, List.setIfInBounds_toArray, List.set_cons_zero, List.set_cons_succ])) | ((with_reducible refine wpList_at 79 rfl ?_); (refine wpList_eqO (o1 := a.ord) (o2 := a.ord) rfl rfl rfl rfl true (tb_true rfl) ?_; simp only [Act.put, List.setIfInBounds_toArray, List.set_cons_zero, List.set_cons_succ])) | ((with_reducible refine wpList_at 86 rfl ?_); (refine wpList_eqS (o1 := a.sta) (o2 := a.sta) rfl rfl rfl rfl true (tb_true rfl) ?_; simp only [Act.put, List.setIfInBounds_toArray, List.set_cons_zero, List.set_cons_succ])))
  rw [← HW.out]
  refine HC19.out.mono ?_
  rintro e V ⟨rfl, hbv⟩
  have HV := Lib.hid (show Below w.heap.size w V from HB1.out.trans ((HW.out ▸ hbv).mono HB1.out.size))
  have p27 := (hbv.cell (p := ⟨w.heap.size, 27, none⟩) (by have := HPQ.out.2.2; show w.heap.size < _; omega)).trans HPQ.out.1
  have q27 := (hbv.cell (p := ⟨w.heap.size + 1, 27, none⟩) HPQ.out.2.2).trans HPQ.out.2.1
  have s20a := bytes_str (Sl.below HBY.out.1 (HV.out.mono HBY.out.2.2.1)) a.bc
  have s20b := bytes_str (Sl.below HBY.out.2.1 (HV.out.mono HBY.out.2.2.2)) b.bc
  have e20 : ((bs a.bytes).toList == (bs b.bytes).toList) = true := str_eq (congrArg bs H12.out)
  clear hbv c0 d0 c1 d1 c2 d2 c3 d3 c4 d4 c5 d5 c6 d6 c7 d7 c8 d8 c9 d9 c10 d10 c11 d11 c12 d12 c13 d13 c14 d14 c15 d15 c16 d16 c17 d17 c18 d18 c19 d19 c20 d20 c21 d21 c22 d22 c23 d23 c24 d24 c25 d25 c26 d26
  go_wp2_with fail
  go_ret
  exact ⟨ret_yes HEQ.out, HV.out⟩
end
section
open Go.RowKit Go.Maps

theorem one_any (a b : EvM) (w : World) (BA BB : Nat) (ha : EvAt w BA a) (hb : EvAt w BB b) (hA : BA ≤ w.heap.size) (hB : BB ≤ w.heap.size) (hl : ActL a.act) : Calls Tryd.prog 18 #[evV a, evV b] w (RetOne a b w) := by
  by_cases h0 : a.kind = b.kind
  rotate_left
  · exact one_0 a b w h0
  by_cases h1 : a.tick = b.tick
  rotate_left
  · exact one_1 a b w h0 h1
  by_cases h2 : a.who = b.who
  rotate_left
  · exact one_2 a b w h0 h1 h2
  by_cases h3 : a.call = b.call
  rotate_left
  · exact one_3 a b w h0 h1 h2 h3
  by_cases h4 : a.epoch = b.epoch
  rotate_left
  · exact one_4 a b w h0 h1 h2 h3 h4
  by_cases h5 : a.n = b.n
  rotate_left
  · exact one_5 a b w h0 h1 h2 h3 h4 h5
  by_cases h6 : a.eterm = b.eterm
  rotate_left
  · exact one_6 a b w h0 h1 h2 h3 h4 h5 h6
  by_cases h7 : a.ekind = b.ekind
  rotate_left
  · exact one_7 a b w h0 h1 h2 h3 h4 h5 h6 h7
  by_cases h8 : a.ebody = b.ebody
  rotate_left
  · exact one_8 a b w BA BB ha hb hA hB h0 h1 h2 h3 h4 h5 h6 h7 h8
  by_cases h9 : a.ord = b.ord
  rotate_left
  · exact one_9 a b w BA BB ha hb hA hB h0 h1 h2 h3 h4 h5 h6 h7 h8 h9
  by_cases h10 : a.sta = b.sta
  rotate_left
  · exact one_10 a b w BA BB ha hb hA hB h0 h1 h2 h3 h4 h5 h6 h7 h8 h9 h10
  by_cases h11 : a.act.con = b.act.con
  rotate_left
  · exact one_11 a b w BA BB ha hb hA hB hl h0 h1 h2 h3 h4 h5 h6 h7 h8 h9 h10 h11
  by_cases h12 : a.bytes = b.bytes
  rotate_left
  · exact one_12 a b w BA BB ha hb hA hB hl h0 h1 h2 h3 h4 h5 h6 h7 h8 h9 h10 h11 h12
  exact one_13 a b w BA BB ha hb hA hB hl h0 h1 h2 h3 h4 h5 h6 h7 h8 h9 h10 h11 h12
end
section
open Go.RowKit Go.Maps

theorem wpList_is {P : Program} {ops : Array Oper} {Q : Exit → Act → World → Prop} {o : Oper} {r : List Oper} {a : Act} {w : World} (x : Op) (_ho : o.op = x) (h : wpList P ops Q (o :: r) a w) : wpList P ops Q (o :: r) a w := h
set_option maxRecDepth 100000 in
set_option maxHeartbeats 8000000 in
theorem equalF_any (w : World) (A C : Option Addr) (c d : Nat) (us vs : List EvM) (BA BB : Nat) (ha : EvsAt w BA A us) (hb : EvsAt w BB C vs) (hA : BA ≤ w.heap.size) (hB : BB ≤ w.heap.size) (hl : ∀ e ∈ us, ActL e.act) (hn : us.length ≤ 9223372036854775806) :
    Calls Tryd.prog 16 #[.slice A us.length c, .slice C vs.length d, .func (.func 17) #[] #[]] w fun e w' => e = .returned (.bool (tb (us.map EvM.con = vs.map EvM.con))) ∧ Below w.heap.size w w' := by
  by_cases hlen : us.length = vs.length
  rotate_left
  · have e1 : ((us.length : Int) != (vs.length : Int)) = true := by simp; omega
    have HNE : Hid (¬ us.map EvM.con = vs.map EvM.con) := fun q => hlen (by have := congrArg List.length q; simpa using this)
    obtain ⟨n, hnn⟩ : ∃ n, n = us.length := ⟨_, rfl⟩
    obtain ⟨m, hm⟩ : ∃ m, m = vs.length := ⟨_, rfl⟩
    rw [← hnn, ← hm] at e1 ⊢
    clear hlen ha hb hA hB hl hn hnn hm
    go_enter Tryd.func16, Tryd.ntmps16
    go_wp2_with fail
    go_ret
    exact ⟨ret_no HNE.out, Below.refl _ _⟩
  have HA := Lib.hid (And.intro ha (And.intro hb (And.intro hA (And.intro hB hl))))
  obtain ⟨n, hnn⟩ : ∃ n, n = us.length := ⟨_, rfl⟩
  have HN := Lib.hid (And.intro hnn (hnn.trans hlen))
  rw [← hlen, ← hnn]
  have hnb : n ≤ 9223372036854775806 := by omega
  have e1 : ((n : Int) != (n : Int)) = false := by simp
  obtain ⟨Z, hZ⟩ : ∃ Z : Array Value, Z = #[.int .i64 0, .int .i64 0, .int .i64 0, .int .i64 0, .int .i64 0, .int .i64 0, .int .i64 0, .int .i64 0, .slice none 0 0, .int .i64 0, .int .i64 0, .int .i64 0, .int .i64 0, .int .i64 0, .int .i64 0, .int .i64 0, .int .i64 0, .int .i64 0, .int .i64 0, .int .i64 0, .int .i64 0, .int .i64 0, .int .i64 0, .int .i64 0, .int .i64 0, .slice none 0 0, .slice none 0 0, .slice none 0 0] := ⟨_, rfl⟩
  have HZ := Lib.hid (And.intro hZ (show ∀ a : EvM, Z.size = (evCs a).toArray.size by rw [hZ]; exact fun _ => rfl))
  clear ha hb hA hB hl hn hnn hlen hZ
  go_enter Tryd.func16, Tryd.ntmps16
  go_wp2_with fail
  clear e1
  go_loopw [17] (fun iv X => ∃ k : Nat, k ≤ n ∧ iv = .int .i64 k ∧ (us.map EvM.con).take k = (vs.map EvM.con).take k ∧ Below w.heap.size w X) (fun iv _ => n - (intOf iv).toNat)
  case atStart => exact ⟨0, Nat.zero_le _, rfl, rfl, Below.refl _ _⟩
  case round =>
    obtain ⟨k, hk, rfl, htk, hbl⟩ := hrel
    have HR := Lib.hid (And.intro htk hbl)
    clear htk hbl
    by_cases hlt : k < n
    · have hlt' : (k : Int) < (n : Int) := by omega
      obtain ⟨x, hx⟩ : ∃ x, us[k]? = some x := ⟨us[k]'(by have := HN.out.1; omega), by simp⟩
      obtain ⟨y, hy⟩ : ∃ y, vs[k]? = some y := ⟨vs[k]'(by have := HN.out.2; omega), by simp⟩
      obtain ⟨ab, ao, hAe, hab, hra⟩ := ev_range HA.out.1.row hx
      obtain ⟨bb, bo, hBe, hbb, hrb⟩ := ev_range HA.out.2.1.row hy
      obtain ⟨X, hX⟩ : ∃ X, X = evCs x := ⟨_, rfl⟩
      obtain ⟨Y, hY⟩ : ∃ Y, Y = evCs y := ⟨_, rfl⟩
      have HSX := Lib.hid (And.intro (show (Tryd.prog.info? 41).map (·.size) = some X.length by rw [hX]; exact ev_size) (show (Tryd.prog.info? 41).map (·.size) = some Y.length by rw [hY]; exact ev_size))
      have HSY := Lib.hid (And.intro (show (Tryd.prog.info? 41).map (·.size) = some X.toArray.size by rw [hX]; exact ev_size) (And.intro (show (Tryd.prog.info? 41).map (·.size) = some Y.toArray.size by rw [hY]; exact ev_size) (And.intro (show X.toArray.all (·.oneCell') = true by rw [hX]; exact evCs_one x) (And.intro (show Y.toArray.all (·.oneCell') = true by rw [hY]; exact evCs_one y) (And.intro (show (#[.int .i64 0, .int .i64 0, .int .i64 0, .int .i64 0, .int .i64 0, .int .i64 0, .int .i64 0, .int .i64 0, .slice none 0 0, .int .i64 0, .int .i64 0, .int .i64 0, .int .i64 0, .int .i64 0, .int .i64 0, .int .i64 0, .int .i64 0, .int .i64 0, .int .i64 0, .int .i64 0, .int .i64 0, .int .i64 0, .int .i64 0, .int .i64 0, .int .i64 0, .slice none 0 0, .slice none 0 0, .slice none 0 0] : Array Value).size = X.toArray.size by rw [hX]; rfl) (show (#[.int .i64 0, .int .i64 0, .int .i64 0, .int .i64 0, .int .i64 0, .int .i64 0, .int .i64 0, .int .i64 0, .slice none 0 0, .int .i64 0, .int .i64 0, .int .i64 0, .int .i64 0, .int .i64 0, .int .i64 0, .int .i64 0, .int .i64 0, .int .i64 0, .int .i64 0, .int .i64 0, .int .i64 0, .int .i64 0, .int .i64 0, .int .i64 0, .int .i64 0, .slice none 0 0, .slice none 0 0, .slice none 0 0] : Array Value).size = Y.toArray.size by rw [hY]; rfl))))))
      obtain ⟨W1, hW1⟩ : ∃ W, W = wr.alloc (.cells X.toArray 41) := ⟨_, rfl⟩
      obtain ⟨W2, hW2⟩ : ∃ W, W = W1.alloc (.cells Y.toArray 41) := ⟨_, rfl⟩
      have hw1 : Below wr.heap.size wr W1 := by rw [hW1]; exact below_new _ _
      have hw2 : Below W1.heap.size W1 W2 := by rw [hW2]; exact below_new _ _
      have hbt := HR.out.2.trans (hw1.mono HR.out.2.size)
      have hbu := hbt.trans (hw2.mono hbt.size)
      have hlt1 : wr.heap.size < W1.heap.size := by rw [hW1]; simp
      have HS1 := Lib.hid (show (wr.alloc (.cells #[.int .i64 0, .int .i64 0, .int .i64 0, .int .i64 0, .int .i64 0, .int .i64 0, .int .i64 0, .int .i64 0, .slice none 0 0, .int .i64 0, .int .i64 0, .int .i64 0, .int .i64 0, .int .i64 0, .int .i64 0, .int .i64 0, .int .i64 0, .int .i64 0, .int .i64 0, .int .i64 0, .int .i64 0, .int .i64 0, .int .i64 0, .int .i64 0, .int .i64 0, .slice none 0 0, .slice none 0 0, .slice none 0 0] 41)).setRow wr.heap.size X.toArray = W1 by rw [hW1]; exact World.setRow_alloc_new wr _ X.toArray 41)
      have HS2 := Lib.hid (show (W1.alloc (.cells #[.int .i64 0, .int .i64 0, .int .i64 0, .int .i64 0, .int .i64 0, .int .i64 0, .int .i64 0, .int .i64 0, .slice none 0 0, .int .i64 0, .int .i64 0, .int .i64 0, .int .i64 0, .int .i64 0, .int .i64 0, .int .i64 0, .int .i64 0, .int .i64 0, .int .i64 0, .int .i64 0, .int .i64 0, .int .i64 0, .int .i64 0, .int .i64 0, .int .i64 0, .slice none 0 0, .slice none 0 0, .slice none 0 0] 41)).setRow W1.heap.size Y.toArray = W2 by rw [hW2]; exact World.setRow_alloc_new W1 _ Y.toArray 41)
      have HO1 := Lib.hid (And.intro (new_obj wr (.cells #[.int .i64 0, .int .i64 0, .int .i64 0, .int .i64 0, .int .i64 0, .int .i64 0, .int .i64 0, .int .i64 0, .slice none 0 0, .int .i64 0, .int .i64 0, .int .i64 0, .int .i64 0, .int .i64 0, .int .i64 0, .int .i64 0, .int .i64 0, .int .i64 0, .int .i64 0, .int .i64 0, .int .i64 0, .int .i64 0, .int .i64 0, .int .i64 0, .int .i64 0, .slice none 0 0, .slice none 0 0, .slice none 0 0] 41)) (new_obj W1 (.cells #[.int .i64 0, .int .i64 0, .int .i64 0, .int .i64 0, .int .i64 0, .int .i64 0, .int .i64 0, .int .i64 0, .slice none 0 0, .int .i64 0, .int .i64 0, .int .i64 0, .int .i64 0, .int .i64 0, .int .i64 0, .int .i64 0, .int .i64 0, .int .i64 0, .int .i64 0, .int .i64 0, .int .i64 0, .int .i64 0, .int .i64 0, .int .i64 0, .int .i64 0, .slice none 0 0, .slice none 0 0, .slice none 0 0] 41)))
      have hr1 : W1.heap[wr.heap.size]? = some (.cells X.toArray 41 (0, 0)) := by rw [hW1]; exact new_obj _ _
      have HR2 := Lib.hid (And.intro (show W2.heap[wr.heap.size]? = some (.cells X.toArray 41 (0, 0)) from (hw2.block wr.heap.size hlt1).trans hr1) (show W2.heap[W1.heap.size]? = some (.cells Y.toArray 41 (0, 0)) by rw [hW2]; exact new_obj _ _))
      have HRX := Lib.hid (And.intro (show wr.rangeAt ab (ao + k * 28) X from fun j v hj => (HR.out.2.cell (p := ⟨ab, ao + k * 28 + j, none⟩) (Nat.lt_of_lt_of_le hab HA.out.2.2.1)).trans (hra j v (by rw [← hX]; exact hj))) (show W1.rangeAt bb (bo + k * 28) Y from fun j v hj => (hbt.cell (p := ⟨bb, bo + k * 28 + j, none⟩) (Nat.lt_of_lt_of_le hbb HA.out.2.2.2.1)).trans (hrb j v (by rw [← hY]; exact hj))))
      have HB2 := Lib.hid hbu
      have HON := Lib.hid (eqEv_any x y W2 BA BB ((HA.out.1.evs x (List.mem_of_getElem? hx)).below (hbu.mono HA.out.2.2.1)) ((HA.out.2.1.evs y (List.mem_of_getElem? hy)).below (hbu.mono HA.out.2.2.2.1)) (Nat.le_trans HA.out.2.2.1 hbu.size) (Nat.le_trans HA.out.2.2.2.1 hbu.size) (HA.out.2.2.2.2 x (List.mem_of_getElem? hx)).ns (HA.out.2.2.2.2 x (List.mem_of_getElem? hx)).nn (HA.out.2.2.2.2 x (List.mem_of_getElem? hx)).ng)
      rw [show evV x = .agg X.toArray by rw [hX]; rfl, show evV y = .agg Y.toArray by rw [hY]; rfl] at HON
      have HSN : Hid ((us.map EvM.con).take (k + 1) = (vs.map EvM.con).take (k + 1) ↔ x.con = y.con) := Lib.hid (by
        rw [take_snoc' (show (us.map EvM.con)[k]? = some x.con by rw [List.getElem?_map, hx]; rfl), take_snoc' (show (vs.map EvM.con)[k]? = some y.con by rw [List.getElem?_map, hy]; rfl), HR.out.1]
        simp)
      rw [hAe, hBe]
      clear hx hy hAe hab hra hBe hbb hrb hX hY hW1 hW2 hw1 hw2 hbt hbu hlt1 hr1
      go_wp2_with (first | ((with_reducible refine wpList_at 21 rfl ?_); refine wpList_load_mid rfl 41 (.tmp 20) rfl ab (ao + k * 28) rfl X _ HRX.out.1 Tryd.underlying41 rfl HSX.out.1 ?_) | ((with_reducible refine wpList_is (.store 41 (.tmp 8) (.tmp 21)) rfl ?_); refine wpList_store_row rfl 41 (.tmp 8) (.tmp 21) rfl wr.heap.size X.toArray rfl rfl 41 _ HO1.out.1 HSY.out.1 HSY.out.2.2.2.2.1 HSY.out.2.2.1 ?_; rw [HS1.out]) | ((with_reducible refine wpList_at 25 rfl ?_); refine wpList_load_mid rfl 41 (.tmp 24) rfl bb (bo + k * 28) rfl Y _ HRX.out.2 Tryd.underlying41 rfl HSX.out.2 ?_) | ((with_reducible refine wpList_is (.store 41 (.tmp 9) (.tmp 25)) rfl ?_); refine wpList_store_row rfl 41 (.tmp 9) (.tmp 25) rfl W1.heap.size Y.toArray rfl rfl 41 _ HO1.out.2 HSY.out.2.1 HSY.out.2.2.2.2.2 HSY.out.2.2.2.1 ?_; rw [HS2.out]) | ((with_reducible refine wpList_at 27 rfl ?_); refine wpList_load_row_g (by rfl) 41 (.tmp 8) rfl wr.heap.size rfl 41 X.toArray (0, 0) _ HR2.out.1 Tryd.underlying41 rfl HSY.out.1 ?_) | ((with_reducible refine wpList_at 28 rfl ?_); refine wpList_load_row_g (by rfl) 41 (.tmp 9) rfl W1.heap.size rfl 41 Y.toArray (0, 0) _ HR2.out.2 Tryd.underlying41 rfl HSY.out.2.1 ?_))
      refine HON.out.mono ?_
      rintro e V1 ⟨rfl, hv1⟩
      have HV1 := Lib.hid (HB2.out.trans (hv1.mono HB2.out.size))
      clear hv1
      by_cases hxy : x.con = y.con
      · rw [tb_true hxy]
        have HXY := Lib.hid hxy
        clear hxy
        go_wp2_with fail
        go_roundw
        case rel => exact ⟨k + 1, by omega, by go_num, HSN.out.2 HXY.out, HV1.out⟩
        case measure => simp [intOf]; omega
      · rw [tb_false hxy]
        have HXY := Lib.hid hxy
        clear hxy
        go_wp2_with fail
        go_ret
        exact ⟨ret_no (fun q => HXY.out (HSN.out.1 (by rw [q]))), HV1.out⟩
    · obtain rfl : k = n := by omega
      have HE : Hid (us.map EvM.con = vs.map EvM.con) := Lib.hid (by
        have h := HR.out.1
        rwa [List.take_of_length_le (by rw [List.length_map]; have := HN.out.1; omega), List.take_of_length_le (by rw [List.length_map]; have := HN.out.2; omega)] at h)
      go_wp2_with fail
      go_ret
      exact ⟨ret_yes HE.out, HR.out.2⟩
set_option maxRecDepth 100000 in
theorem equal_any (w : World) (A C : Option Addr) (c d : Nat) (us vs : List EvM) (BA BB : Nat) (ha : EvsAt w BA A us) (hb : EvsAt w BB C vs) (hA : BA ≤ w.heap.size) (hB : BB ≤ w.heap.size) (hl : ∀ e ∈ us, ActL e.act) (hn : us.length ≤ 9223372036854775806) :
    Calls Tryd.prog 7 #[.slice A us.length c, .slice C vs.length d] w fun e w' => e = .returned (.bool (tb (us.map EvM.con = vs.map EvM.con))) ∧ Below w.heap.size w w' := by
  have HC := Lib.hid (equalF_any w A C c d us vs BA BB ha hb hA hB hl hn)
  clear ha hb hA hB hl hn
  go_enter Tryd.func7, Tryd.ntmps7
  go_wp2_with fail
  refine HC.out.mono ?_
  rintro e V ⟨rfl, hv⟩
  have HV := Lib.hid hv
  clear hv
  go_wp2_with fail
  go_ret
  exact ⟨rfl, HV.out⟩
end
section
open Go.RowKit Go.Maps

set_option maxRecDepth 100000 in
set_option maxHeartbeats 8000000 in
theorem same51_any (w : World) (A C : Option Addr) (c d : Nat) (us vs : List EvM) (BA BB : Nat) (ha : EvsAt w BA A us) (hb : EvsAt w BB C vs) (hA : BA ≤ w.heap.size) (hB : BB ≤ w.heap.size) (hl : ∀ e ∈ us, ActL e.act) (hn : us.length ≤ 9223372036854775806) :
    Calls Tryd.prog 8 #[.slice A us.length c, .slice C vs.length d] w fun e w' => e = .returned (.bool (tb (us.map EvM.con = vs.map EvM.con))) ∧ Below w.heap.size w w' := by
  by_cases hlen : us.length = vs.length
  rotate_left
  · have e1 : ((us.length : Int) != (vs.length : Int)) = true := by simp; omega
    have HNE : Hid (¬ us.map EvM.con = vs.map EvM.con) := fun q => hlen (by have := congrArg List.length q; simpa using this)
    obtain ⟨n, hnn⟩ : ∃ n, n = us.length := ⟨_, rfl⟩
    obtain ⟨m, hm⟩ : ∃ m, m = vs.length := ⟨_, rfl⟩
    rw [← hnn, ← hm] at e1 ⊢
    clear hlen ha hb hA hB hl hn hnn hm
    go_enter Tryd.func8, Tryd.ntmps8
    go_wp2_with fail
    go_ret
    exact ⟨ret_no HNE.out, Below.refl _ _⟩
  have HA := Lib.hid (And.intro ha (And.intro hb (And.intro hA (And.intro hB hl))))
  obtain ⟨n, hnn⟩ : ∃ n, n = us.length := ⟨_, rfl⟩
  have HN := Lib.hid (And.intro hnn (hnn.trans hlen))
  rw [← hlen, ← hnn]
  have hnb : n ≤ 9223372036854775806 := by omega
  have e1 : ((n : Int) != (n : Int)) = false := by simp
  clear ha hb hA hB hl hn hnn hlen
  go_enter Tryd.func8, Tryd.ntmps8
  go_wp2_with fail
  clear e1
  go_loopw [5] (fun iv X => ∃ k : Nat, k ≤ n ∧ iv = .int .i64 k ∧ (us.map EvM.con).take k = (vs.map EvM.con).take k ∧ Below w.heap.size w X) (fun iv _ => n - (intOf iv).toNat)
  case atStart => exact ⟨0, Nat.zero_le _, rfl, rfl, Below.refl _ _⟩
  case round =>
    obtain ⟨k, hk, rfl, htk, hbl⟩ := hrel
    have HR := Lib.hid (And.intro htk hbl)
    clear htk hbl
    by_cases hlt : k < n
    · have hlt' : (k : Int) < (n : Int) := by omega
      obtain ⟨x, hx⟩ : ∃ x, us[k]? = some x := ⟨us[k]'(by have := HN.out.1; omega), by simp⟩
      obtain ⟨y, hy⟩ : ∃ y, vs[k]? = some y := ⟨vs[k]'(by have := HN.out.2; omega), by simp⟩
      have HXX := Lib.hid (And.intro hx hy)
      obtain ⟨ab, ao, hAe, hab, hra⟩ := ev_range HA.out.1.row hx
      obtain ⟨bb, bo, hBe, hbb, hrb⟩ := ev_range HA.out.2.1.row hy
      obtain ⟨X, hX⟩ : ∃ X, X = evCs x := ⟨_, rfl⟩
      obtain ⟨Y, hY⟩ : ∃ Y, Y = evCs y := ⟨_, rfl⟩
      have HSX := Lib.hid (And.intro (show (Tryd.prog.info? 41).map (·.size) = some X.length by rw [hX]; exact ev_size) (show (Tryd.prog.info? 41).map (·.size) = some Y.length by rw [hY]; exact ev_size))
      have HTO := Lib.hid (show ∀ Z : World, Below wr.heap.size wr Z → Below w.heap.size w Z from fun Z hz => HR.out.2.trans (hz.mono HR.out.2.size))
      have HRX := Lib.hid (And.intro (show ∀ Z : World, Below wr.heap.size wr Z → Z.rangeAt ab (ao + k * 28) X from fun Z hz j v hj => ((HTO.out Z hz).cell (p := ⟨ab, ao + k * 28 + j, none⟩) (Nat.lt_of_lt_of_le hab HA.out.2.2.1)).trans (hra j v (by rw [← hX]; exact hj))) (show ∀ Z : World, Below wr.heap.size wr Z → Z.rangeAt bb (bo + k * 28) Y from fun Z hz j v hj => ((HTO.out Z hz).cell (p := ⟨bb, bo + k * 28 + j, none⟩) (Nat.lt_of_lt_of_le hbb HA.out.2.2.2.1)).trans (hrb j v (by rw [← hY]; exact hj))))
      have HON := Lib.hid (fun (Z : World) (hz : Below wr.heap.size wr Z) => one_any x y Z BA BB ((HA.out.1.evs x (List.mem_of_getElem? hx)).below ((HTO.out Z hz).mono HA.out.2.2.1)) ((HA.out.2.1.evs y (List.mem_of_getElem? hy)).below ((HTO.out Z hz).mono HA.out.2.2.2.1)) (Nat.le_trans HA.out.2.2.1 (HTO.out Z hz).size) (Nat.le_trans HA.out.2.2.2.1 (HTO.out Z hz).size) (HA.out.2.2.2.2 x (List.mem_of_getElem? hx)))
      rw [show evV x = .agg X.toArray by rw [hX]; rfl, show evV y = .agg Y.toArray by rw [hY]; rfl] at HON
      have HHD := Lib.hid (show Below wr.heap.size wr wr.drew from below_dr (Below.refl _ _) 1)
      have HSN : Hid ((us.map EvM.con).take (k + 1) = (vs.map EvM.con).take (k + 1) ↔ x.con = y.con) := Lib.hid (by
        rw [take_snoc (show (us.map EvM.con)[k]? = some x.con by rw [List.getElem?_map, HXX.out.1]; rfl), take_snoc (show (vs.map EvM.con)[k]? = some y.con by rw [List.getElem?_map, HXX.out.2]; rfl), HR.out.1]
        simp)
      rw [hAe, hBe]
      clear hx hy hAe hab hra hBe hbb hrb hX hY
      go_wp2_with fail
      by_cases hxy : x.con = y.con
      · have HXY := Lib.hid hxy
        clear hxy
        refine wp_region_held_drew (S := fun W' => Below wr.heap.size wr W') (by kernel_rfl) HHD.out (fun hHeld => ?_)
        refine wpAnyH_take (i := 0) (v := .slice (some ⟨ab, ao, none⟩) n c) rfl (by kernel_rfl) (by kernel_rfl) (by kernel_rfl) (fun _ _ _ h => h) (Or.inl ⟨by rfl, ?_⟩) (by assumption) ?_
        · intro w' hSw
          go_simp
        show wpAnyH _ _ _ _ _ _ _ (Act.put _ (some 17) _) _
        simp only [Act.put, List.setIfInBounds_toArray, List.set_cons_zero, List.set_cons_succ]
        refine wpAnyH_take (i := 1) (v := .int .i64 k) rfl (by kernel_rfl) (by kernel_rfl) (by kernel_rfl) (fun _ _ _ h => h) (Or.inl ⟨by rfl, ?_⟩) (by assumption) ?_
        · intro w' hSw
          go_simp
        show wpAnyH _ _ _ _ _ _ _ (Act.put _ (some 18) _) _
        simp only [Act.put, List.setIfInBounds_toArray, List.set_cons_zero, List.set_cons_succ]
        refine wpAnyH_take (i := 2) (v := .pointer (some ⟨ab, ao + k * 28, none⟩)) rfl (by kernel_rfl) (by kernel_rfl) (by kernel_rfl) (fun _ _ _ h => h) (Or.inl ⟨by rfl, ?_⟩) (by assumption) ?_
        · intro w' hSw
          go_simp
        show wpAnyH _ _ _ _ _ _ _ (Act.put _ (some 19) _) _
        simp only [Act.put, List.setIfInBounds_toArray, List.set_cons_zero, List.set_cons_succ]
        refine wpAnyH_take (i := 3) (v := .agg X.toArray) rfl (by kernel_rfl) (by kernel_rfl) (by kernel_rfl) (fun _ _ _ h => h) (yieldsIf_load_mid (by rfl) 41 (.tmp 19) rfl ab (ao + k * 28) rfl X _ (fun w' hSw => HRX.out.1 w' hSw) Tryd.underlying41 rfl HSX.out.1) (by assumption) ?_
        show wpAnyH _ _ _ _ _ _ _ (Act.put _ (some 20) _) _
        simp only [Act.put, List.setIfInBounds_toArray, List.set_cons_zero, List.set_cons_succ]
        refine wpAnyH_take (i := 4) (v := .slice (some ⟨bb, bo, none⟩) n d) rfl (by kernel_rfl) (by kernel_rfl) (by kernel_rfl) (fun _ _ _ h => h) (Or.inl ⟨by rfl, ?_⟩) (by assumption) ?_
        · intro w' hSw
          go_simp
        show wpAnyH _ _ _ _ _ _ _ (Act.put _ (some 21) _) _
        simp only [Act.put, List.setIfInBounds_toArray, List.set_cons_zero, List.set_cons_succ]
        refine wpAnyH_take (i := 5) (v := .int .i64 k) rfl (by kernel_rfl) (by kernel_rfl) (by kernel_rfl) (fun _ _ _ h => h) (Or.inl ⟨by rfl, ?_⟩) (by assumption) ?_
        · intro w' hSw
          go_simp
        show wpAnyH _ _ _ _ _ _ _ (Act.put _ (some 22) _) _
        simp only [Act.put, List.setIfInBounds_toArray, List.set_cons_zero, List.set_cons_succ]
        refine wpAnyH_take (i := 6) (v := .pointer (some ⟨bb, bo + k * 28, none⟩)) rfl (by kernel_rfl) (by kernel_rfl) (by kernel_rfl) (fun _ _ _ h => h) (Or.inl ⟨by rfl, ?_⟩) (by assumption) ?_
        · intro w' hSw
          go_simp
        show wpAnyH _ _ _ _ _ _ _ (Act.put _ (some 23) _) _
        simp only [Act.put, List.setIfInBounds_toArray, List.set_cons_zero, List.set_cons_succ]
        refine wpAnyH_take (i := 7) (v := .agg Y.toArray) rfl (by kernel_rfl) (by kernel_rfl) (by kernel_rfl) (fun _ _ _ h => h) (yieldsIf_load_mid (by rfl) 41 (.tmp 23) rfl bb (bo + k * 28) rfl Y _ (fun w' hSw => HRX.out.2 w' hSw) Tryd.underlying41 rfl HSX.out.2) (by assumption) ?_
        show wpAnyH _ _ _ _ _ _ _ (Act.put _ (some 24) _) _
        simp only [Act.put, List.setIfInBounds_toArray, List.set_cons_zero, List.set_cons_succ]
        refine wpAnyH_ready (rs := [8]) (by kernel_rfl) (by simp) ?_
        refine AllReadyH.cons rfl (fun K hK => ?_) AllReadyH.nil
        go_simp
        refine (HON.out _ HHD.out).mono ?_
        rintro e V1 ⟨rfl, hv1⟩
        rw [tb_true HXY.out]
        go_simp
        have hV1 := HHD.out.trans (hv1.mono HHD.out.size)
        clear hv1
        refine hK.out _ _ hV1 (fun hHeld => ?_)
        clear hK K
        refine wpAnyH_take (i := 9) (v := .bool false) rfl (by kernel_rfl) (by kernel_rfl) (by kernel_rfl) (fun _ _ _ h => h) (Or.inl ⟨by rfl, ?_⟩) (by assumption) ?_
        · intro w' hSw
          go_simp
        show wpAnyH _ _ _ _ _ _ _ (Act.put _ (some 26) _) _
        simp only [Act.put, List.setIfInBounds_toArray, List.set_cons_zero, List.set_cons_succ]
        refine wpAnyH_done (by kernel_rfl) ?_ _
        have HV1 := Lib.hid (HR.out.2.trans (hV1.mono HR.out.2.size))
        clear hV1 hHeld
        go_wp2_with fail
        go_roundw
        case rel => exact ⟨k + 1, by omega, by go_num, HSN.out.2 HXY.out, HV1.out⟩
        case measure => simp [intOf]; omega
      · have HXY := Lib.hid hxy
        clear hxy
        refine wp_region_held_drew (S := fun W' => Below wr.heap.size wr W') (by kernel_rfl) HHD.out (fun hHeld => ?_)
        refine wpAnyH_take (i := 0) (v := .slice (some ⟨ab, ao, none⟩) n c) rfl (by kernel_rfl) (by kernel_rfl) (by kernel_rfl) (fun _ _ _ h => h) (Or.inl ⟨by rfl, ?_⟩) (by assumption) ?_
        · intro w' hSw
          go_simp
        show wpAnyH _ _ _ _ _ _ _ (Act.put _ (some 17) _) _
        simp only [Act.put, List.setIfInBounds_toArray, List.set_cons_zero, List.set_cons_succ]
        refine wpAnyH_take (i := 1) (v := .int .i64 k) rfl (by kernel_rfl) (by kernel_rfl) (by kernel_rfl) (fun _ _ _ h => h) (Or.inl ⟨by rfl, ?_⟩) (by assumption) ?_
        · intro w' hSw
          go_simp
        show wpAnyH _ _ _ _ _ _ _ (Act.put _ (some 18) _) _
        simp only [Act.put, List.setIfInBounds_toArray, List.set_cons_zero, List.set_cons_succ]
        refine wpAnyH_take (i := 2) (v := .pointer (some ⟨ab, ao + k * 28, none⟩)) rfl (by kernel_rfl) (by kernel_rfl) (by kernel_rfl) (fun _ _ _ h => h) (Or.inl ⟨by rfl, ?_⟩) (by assumption) ?_
        · intro w' hSw
          go_simp
        show wpAnyH _ _ _ _ _ _ _ (Act.put _ (some 19) _) _
        simp only [Act.put, List.setIfInBounds_toArray, List.set_cons_zero, List.set_cons_succ]
        refine wpAnyH_take (i := 3) (v := .agg X.toArray) rfl (by kernel_rfl) (by kernel_rfl) (by kernel_rfl) (fun _ _ _ h => h) (yieldsIf_load_mid (by rfl) 41 (.tmp 19) rfl ab (ao + k * 28) rfl X _ (fun w' hSw => HRX.out.1 w' hSw) Tryd.underlying41 rfl HSX.out.1) (by assumption) ?_
        show wpAnyH _ _ _ _ _ _ _ (Act.put _ (some 20) _) _
        simp only [Act.put, List.setIfInBounds_toArray, List.set_cons_zero, List.set_cons_succ]
        refine wpAnyH_take (i := 4) (v := .slice (some ⟨bb, bo, none⟩) n d) rfl (by kernel_rfl) (by kernel_rfl) (by kernel_rfl) (fun _ _ _ h => h) (Or.inl ⟨by rfl, ?_⟩) (by assumption) ?_
        · intro w' hSw
          go_simp
        show wpAnyH _ _ _ _ _ _ _ (Act.put _ (some 21) _) _
        simp only [Act.put, List.setIfInBounds_toArray, List.set_cons_zero, List.set_cons_succ]
        refine wpAnyH_take (i := 5) (v := .int .i64 k) rfl (by kernel_rfl) (by kernel_rfl) (by kernel_rfl) (fun _ _ _ h => h) (Or.inl ⟨by rfl, ?_⟩) (by assumption) ?_
        · intro w' hSw
          go_simp
        show wpAnyH _ _ _ _ _ _ _ (Act.put _ (some 22) _) _
        simp only [Act.put, List.setIfInBounds_toArray, List.set_cons_zero, List.set_cons_succ]
        refine wpAnyH_take (i := 6) (v := .pointer (some ⟨bb, bo + k * 28, none⟩)) rfl (by kernel_rfl) (by kernel_rfl) (by kernel_rfl) (fun _ _ _ h => h) (Or.inl ⟨by rfl, ?_⟩) (by assumption) ?_
        · intro w' hSw
          go_simp
        show wpAnyH _ _ _ _ _ _ _ (Act.put _ (some 23) _) _
        simp only [Act.put, List.setIfInBounds_toArray, List.set_cons_zero, List.set_cons_succ]
        refine wpAnyH_take (i := 7) (v := .agg Y.toArray) rfl (by kernel_rfl) (by kernel_rfl) (by kernel_rfl) (fun _ _ _ h => h) (yieldsIf_load_mid (by rfl) 41 (.tmp 23) rfl bb (bo + k * 28) rfl Y _ (fun w' hSw => HRX.out.2 w' hSw) Tryd.underlying41 rfl HSX.out.2) (by assumption) ?_
        show wpAnyH _ _ _ _ _ _ _ (Act.put _ (some 24) _) _
        simp only [Act.put, List.setIfInBounds_toArray, List.set_cons_zero, List.set_cons_succ]
        refine wpAnyH_ready (rs := [8]) (by kernel_rfl) (by simp) ?_
        refine AllReadyH.cons rfl (fun K hK => ?_) AllReadyH.nil
        go_simp
        refine (HON.out _ HHD.out).mono ?_
        rintro e V1 ⟨rfl, hv1⟩
        rw [tb_false HXY.out]
        go_simp
        have hV1 := HHD.out.trans (hv1.mono HHD.out.size)
        clear hv1
        refine hK.out _ _ hV1 (fun hHeld => ?_)
        clear hK K
        refine wpAnyH_take (i := 9) (v := .bool true) rfl (by kernel_rfl) (by kernel_rfl) (by kernel_rfl) (fun _ _ _ h => h) (Or.inl ⟨by rfl, ?_⟩) (by assumption) ?_
        · intro w' hSw
          go_simp
        show wpAnyH _ _ _ _ _ _ _ (Act.put _ (some 26) _) _
        simp only [Act.put, List.setIfInBounds_toArray, List.set_cons_zero, List.set_cons_succ]
        refine wpAnyH_done (by kernel_rfl) ?_ _
        have HV1 := Lib.hid (HR.out.2.trans (hV1.mono HR.out.2.size))
        clear hV1 hHeld
        go_wp2_with fail
        go_ret
        exact ⟨ret_no (fun q => HXY.out (HSN.out.1 (by rw [q]))), HV1.out⟩
    · obtain rfl : k = n := by omega
      have HE : Hid (us.map EvM.con = vs.map EvM.con) := Lib.hid (by
        have h := HR.out.1
        rwa [List.take_of_length_le (by rw [List.length_map]; have := HN.out.1; omega), List.take_of_length_le (by rw [List.length_map]; have := HN.out.2; omega)] at h)
      go_wp2_with fail
      go_ret
      exact ⟨ret_yes HE.out, HR.out.2⟩
end
section
open Go.RowKit Go.Maps

/-- an event whose line can be read back. -/
def GoodE (b : EvC) : Prop := VEv b ∧ EvOk b ∧ (evT b).length ≤ 65536
/-- a text that does not begin with the line of an event. -/
def BadT (t : Wd) : Prop := t ≠ [] ∧ ((10 : UInt8) ∉ t ∨ ∃ u r, t = u ++ 10 :: r ∧ (10 : UInt8) ∉ u ∧ ∀ b, GoodE b → u ≠ evT b)
def ParT (s : Wd) (l : List EvC) (ok : Bool) : Prop := (∀ x ∈ l, GoodE x) ∧ ∃ t, s = joinE l ++ t ∧ if ok then t = [] else BadT t
theorem joinE_cons (x : EvC) (r : List EvC) : joinE (x :: r) = evT x ++ 10 :: joinE r := by simp [joinE]
theorem evT_no10 (e : EvC) : (10 : UInt8) ∉ evT e := lineW_no10 (evW_no10 e)
theorem nl_apart : ∀ {u v r r' : Wd}, (10 : UInt8) ∉ u → (10 : UInt8) ∉ v → u ++ 10 :: r = v ++ 10 :: r' → u = v ∧ r = r'
  | [], [], _, _, _, _, h => by
    injection h with _ h
    exact ⟨rfl, h⟩
  | [], y :: v, _, _, _, h2, h => by
    injection h with h1 _
    exact absurd (by rw [← h1]; simp) h2
  | x :: u, [], _, _, h1, _, h => by
    injection h with h2 _
    exact absurd (by rw [h2]; simp) h1
  | x :: u, y :: v, _, _, h1, h2, h => by
    injection h with h3 h4
    obtain ⟨e1, e2⟩ := nl_apart (fun q => h1 (by simp [q])) (fun q => h2 (by simp [q])) h4
    exact ⟨by rw [h3, e1], e2⟩
theorem bad_good {t : Wd} {x : EvC} {r : Wd} (hb : BadT t) (hx : GoodE x) : t ≠ evT x ++ 10 :: r := fun q => by
  rcases hb.2 with h | ⟨u, r', e, hu, hn⟩
  · rw [q] at h
    simp at h
  · rw [e] at q
    exact hn x hx (nl_apart hu (evT_no10 x) q).1
theorem parT_one : ∀ {l l' : List EvC} {s : Wd} {ok ok' : Bool}, ParT s l ok → ParT s l' ok' → l = l' ∧ ok = ok'
  | [], [], s, ok, ok', ⟨_, t, e1, h1⟩, ⟨_, t', e2, h2⟩ => by
    refine ⟨rfl, ?_⟩
    have e : t = t' := by
      rw [e1] at e2
      simpa using e2
    subst e
    cases ok <;> cases ok'
    · rfl
    · simp at h1 h2
      exact absurd h2 h1.1
    · simp at h1 h2
      exact absurd h1 h2.1
    · rfl
  | [], x :: l', s, ok, ok', ⟨_, t, e1, h1⟩, ⟨g2, t', e2, h2⟩ => by
    rw [e1, joinE_cons] at e2
    have e2 : t = evT x ++ 10 :: (joinE l' ++ t') := by simpa [joinE] using e2
    cases ok
    · simp at h1
      exact absurd e2 (bad_good h1 (g2 x (by simp)))
    · simp at h1
      rw [h1] at e2
      simp at e2
  | x :: l, [], s, ok, ok', ⟨g1, t, e1, h1⟩, ⟨_, t', e2, h2⟩ => by
    rw [e2, joinE_cons] at e1
    have e2 : t' = evT x ++ 10 :: (joinE l ++ t) := by simpa [joinE] using e1
    cases ok'
    · simp at h2
      exact absurd e2 (bad_good h2 (g1 x (by simp)))
    · simp at h2
      rw [h2] at e2
      simp at e2
  | x :: l, y :: l', s, ok, ok', ⟨g1, t, e1, h1⟩, ⟨g2, t', e2, h2⟩ => by
    have e3 := e2
    rw [e1, joinE_cons, joinE_cons] at e3
    simp only [List.append_assoc, List.cons_append] at e3
    obtain ⟨q1, q2⟩ := nl_apart (evT_no10 x) (evT_no10 y) e3
    have q3 := evT_inj (g1 x (by simp)).1 (g2 y (by simp)).1 q1
    obtain ⟨q4, q5⟩ := parT_one (s := joinE l ++ t) (l := l) (l' := l') (ok := ok) (ok' := ok') ⟨fun z hz => g1 z (by simp [hz]), t, rfl, h1⟩ ⟨fun z hz => g2 z (by simp [hz]), t', q2, h2⟩
    exact ⟨by rw [q3, q4], q5⟩
theorem parT_app {s t : Wd} {l m : List EvC} {ok : Bool} (h1 : ParT s l true) (h2 : ParT t m ok) : ParT (s ++ t) (l ++ m) ok := by
  obtain ⟨g1, x, e1, q1⟩ := h1
  obtain ⟨g2, y, e2, q2⟩ := h2
  have q1 : x = [] := by simpa using q1
  refine ⟨fun z hz => ?_, y, ?_, q2⟩
  · rcases List.mem_append.1 hz with h | h
    · exact g1 z h
    · exact g2 z h
  · rw [e1, e2, q1]
    simp [joinE]
theorem parT_join {l : List EvC} (h : ∀ x ∈ l, GoodE x) : ParT (joinE l) l true := ⟨h, [], by simp, by simp⟩
end
section
open Go.RowKit Go.Maps

/-- what FewAct has counted behind k sources. -/
def fewZ (a : ActM) (k : Nat) : Nat := a.groups.length + ((a.srcs.take k).map (fun s => s.nodes.length + 1)).sum
theorem fewZ_next {a : ActM} {k : Nat} {s : SrcM} (h : a.srcs[k]? = some s) : fewZ a (k + 1) = fewZ a k + 1 + s.nodes.length := by
  unfold fewZ
  rw [take_snoc h, List.map_append, List.sum_append]
  simp
  omega
theorem fewZ_all (a : ActM) : fewZ a a.srcs.length = actSize a.con := by
  unfold fewZ actSize
  rw [List.take_length]
  show _ = a.groups.length + ((a.srcs.map SrcM.con).map (fun s => s.nodes.length + 1)).sum
  rw [List.map_map]
  rfl
set_option maxRecDepth 100000 in
set_option maxHeartbeats 4000000 in
theorem fewAct_any (a : ActM) (w : World) (hat : ActAt w w.heap.size a) (wf : ActWf 1048576 a) : Calls Tryd.prog 15 #[actV a] w fun e w' => (∃ b, e = .returned (.bool b) ∧ (b = true → actSize a.con ≤ 200)) ∧ Below w.heap.size w w' := by
  obtain ⟨C, hC⟩ : ∃ C, C = (actCs a).toArray := ⟨_, rfl⟩
  have hv : actV a = .agg C := by rw [hC]; rfl
  obtain ⟨W1, hW1⟩ : ∃ W1, W1 = w.alloc (.cells C 39) := ⟨_, rfl⟩
  have hrow := new_obj w (.cells C 39)
  have hb1 : Below w.heap.size w W1 := by rw [hW1]; exact below_new _ _
  have hlt1 : w.heap.size < W1.heap.size := by rw [hW1]; simp
  have HC := Lib.hid (show ∀ (j : Nat) (u : Value), (actCs a)[j]? = some u → W1.cell? ⟨w.heap.size, j, none⟩ = some u from fun j u hj => by
    rw [hW1, Lib.cell_of_heap hrow, hC]
    simpa using hj)
  obtain ⟨m, hm⟩ : ∃ m, m = a.srcs.length := ⟨_, rfl⟩
  have HM := Lib.hid hm
  obtain ⟨gl, hgl⟩ : ∃ g, g = a.groups.length := ⟨_, rfl⟩
  have HG := Lib.hid hgl
  have hp6 := HC.out 6 (.slice a.sA a.srcs.length a.sc) rfl
  have c7 : C[7]? = some (.slice a.gA a.groups.length a.gc) := by rw [hC]; rfl
  rw [← hm] at hp6
  rw [← hgl] at c7
  have hgb : gl ≤ 1048576 := by rw [hgl]; exact wf.glen
  have hmb : m ≤ 1048576 := by rw [hm]; exact wf.slen
  have HWF := Lib.hid (And.intro hb1 (And.intro (hat.srcs.below hb1) wf))
  rw [hv]
  clear hC hv hrow hb1 hlt1 HC hat wf hm hgl
  go_enter Tryd.func15, Tryd.ntmps15
  go_wp2_with fail
  rw [← hW1]
  clear hW1 c7
  go_loopw [3, 4] (fun nv iv X => ∃ (k z : Nat), k ≤ m ∧ iv = .int .i64 k ∧ nv = .int .i64 z ∧ z = fewZ a k ∧ z ≤ 1048576 ∧ X = W1) (fun _ iv _ => m - (intOf iv).toNat)
  case atStart => exact ⟨0, gl, Nat.zero_le _, rfl, rfl, by unfold fewZ; rw [HG.out]; simp, hgb, rfl⟩
  case round =>
    obtain ⟨k, z, hk, rfl, rfl, hz, hzb, hX⟩ := hrel
    subst hX
    have HZ := Lib.hid hz
    clear hz
    by_cases hlt : k < m
    · have hlt' : (k : Int) < (m : Int) := by omega
      obtain ⟨s, hs⟩ : ∃ s, a.srcs[k]? = some s := ⟨a.srcs[k]'(by have := HM.out; omega), by simp⟩
      obtain ⟨ab, ao, hA, hab, x0, x1⟩ := src_at HWF.out.2.1.row hs
      have hsl : s.nodes.length ≤ 1048576 := (HWF.out.2.2.srcs s (List.mem_of_getElem? hs)).len
      have HN := Lib.hid (show z + 1 + s.nodes.length = fewZ a (k + 1) by rw [fewZ_next hs, HZ.out])
      obtain ⟨l, hl⟩ : ∃ l, l = s.nodes.length := ⟨_, rfl⟩
      rw [← hl] at hsl HN x1
      rw [hA] at hp6
      have w1 : IntKind.i64.wrap ((z : Int) + 1) = (z : Int) + 1 := IntWalk.i64_in _ (by omega)
      have w2 : IntKind.i64.wrap ((z : Int) + 1 + (l : Int)) = (z : Int) + 1 + (l : Int) := IntWalk.i64_in _ (by omega)
      clear hs hab hl hA
      by_cases hbig : 200 < z + 1 + l
      · have d1 : decide ((200 : Int) < (z : Int) + 1 + (l : Int)) = true := decide_eq_true (by omega)
        clear hbig
        go_wp2_with fail
        go_ret
        exact ⟨⟨false, rfl, fun h => by cases h⟩, HWF.out.1⟩
      · have d1 : decide ((200 : Int) < (z : Int) + 1 + (l : Int)) = false := decide_eq_false (by omega)
        have hzn : z + 1 + l ≤ 200 := by omega
        clear hbig
        go_wp2_with fail
        go_roundw
        case rel => exact ⟨k + 1, z + 1 + l, by omega, by go_num, by go_num, HN.out, by omega, by first | rfl | trivial⟩
        case measure => simp [intOf]; omega
    · obtain rfl : k = m := by omega
      have HF := Lib.hid (show z = actSize a.con by rw [HZ.out, HM.out, fewZ_all])
      go_wp2_with fail
      go_ret
      refine ⟨⟨decide ((z : Int) ≤ 200), rfl, fun h => ?_⟩, HWF.out.1⟩
      have := of_decide_eq_true h
      have := HF.out
      omega
end
section
open Go.RowKit Go.Maps Go.ChangeShapes Go.WideShapes Go.ChangeAt

section
variable {H : Type} {enc : TypeId × Value → H}
set_option maxRecDepth 100000 in
theorem open_evs2 {W : World} {r : Reach} {b0 : Nat} {v : Value} {d : DataW H} {p : List MemPlace} {base : Nat} {spare : Nat → Bool} {held : Bool}
    (hv : Value.okWide Tryd.prog W r b0 22 v) (h : DataW.Trod enc Tryd.prog W base spare held 22 v d p) :
    ∃ (A : Option Addr) (us : List EvM) (cap : Nat), v = .slice A us.length cap ∧ EvsAt W W.heap.size A us ∧ us.length ≤ Rows.uptoBulk d ∧ ∀ e ∈ us, EvWf (Rows.uptoBulk d) e := by
  obtain ⟨A, len, cap, rfl⟩ := okWide_slice Tryd.underlying22 hv
  obtain ⟨fuel, hf⟩ := h
  have hf' : DataW.trod enc Tryd.prog W base spare held fuel 22 [.slice A len cap] = some (d, p) := by simpa [Value.cells] using hf
  have hbn := bulk_field Tryd.underlying22 hf'
  obtain ⟨A', n, cap', e, h1, h2, h3, h4⟩ := recs_bulk (C := 28) Tryd.underlying22 (by kernel_rfl) (by decide) hf'
  injection e with e1 e2 e3
  subst e1 e2 e3
  obtain ⟨us, hl, hR⟩ := list_of (fun i u => (∃ b o, A = some ⟨b, o, none⟩ ∧ b < W.heap.size ∧ ∀ (j : Nat) (v : Value), (evCs u)[j]? = some v → W.cell? ⟨b, o + i * 28 + j, none⟩ = some v) ∧ EvAt W W.heap.size u ∧ EvWf (Rows.uptoBulk d) u) len (fun i hi => by
    obtain ⟨b, o, cs, e, hb, hcl, hc, y, m, ht, hby⟩ := h4 i hi
    obtain ⟨x, hx, hat, hw⟩ := ev_open hcl ht
    exact ⟨x, ⟨b, o, e, hb, by rw [hx]; exact hc⟩, hat, hw.mono hby⟩)
  refine ⟨A, us, cap, by rw [hl], ⟨recsAt_of evCs_len (by decide) (fun i a ha => (hR i a ha).1), fun q hq => ?_⟩, by rw [hl]; exact hbn, fun q hq => ?_⟩
  · obtain ⟨i, hi⟩ := List.getElem?_of_mem hq
    exact (hR i q hi).2.1
  · obtain ⟨i, hi⟩ := List.getElem?_of_mem hq
    exact (hR i q hi).2.2
end
/-- what Few says of an event. -/
def FewE (e : EvM) : Prop := actSize e.act.con ≤ 200 ∧ e.ebody.length ≤ 300 ∧ e.bytes.length ≤ 300
set_option maxRecDepth 100000 in
set_option maxHeartbeats 8000000 in
theorem few_any (w : World) (A : Option Addr) (c : Nat) (us : List EvM) (most : Nat) (hat : EvsAt w w.heap.size A us) (hw : ∀ e ∈ us, EvWf 1048576 e) (hn : us.length ≤ 1048576) :
    Calls Tryd.prog 6 #[.slice A us.length c, .int .i64 most] w fun e w' => (∃ b, e = .returned (.bool b) ∧ (b = true → us.length ≤ most ∧ ∀ e ∈ us, FewE e)) ∧ Below w.heap.size w w' := by
  have HA := Lib.hid (And.intro hat hw)
  obtain ⟨n, hnn⟩ : ∃ n, n = us.length := ⟨_, rfl⟩
  have HN := Lib.hid hnn
  rw [← hnn] at hn ⊢
  clear hat hw hnn
  by_cases hm : most < n
  · have d0 : decide ((most : Int) < (n : Int)) = true := decide_eq_true (by omega)
    have d1 : decide (most < n) = true := decide_eq_true hm
    go_enter Tryd.func6, Tryd.ntmps6
    go_wp2_with fail
    go_ret
    exact ⟨⟨false, rfl, fun h => by cases h⟩, Below.refl _ _⟩
  have d0 : decide ((most : Int) < (n : Int)) = false := decide_eq_false (by omega)
  have d1 : decide (most < n) = false := decide_eq_false hm
  have HMM := Lib.hid (show n ≤ most by omega)
  go_enter Tryd.func6, Tryd.ntmps6
  go_wp2_with fail
  clear d0 d1 hm
  go_loopw [5] (fun iv X => ∃ k : Nat, k ≤ n ∧ iv = .int .i64 k ∧ (∀ e ∈ us.take k, FewE e) ∧ Below w.heap.size w X) (fun iv _ => n - (intOf iv).toNat)
  case atStart => exact ⟨0, Nat.zero_le _, rfl, (fun e he => by cases he), Below.refl _ _⟩
  case round =>
    obtain ⟨k, hk, rfl, hall, hb⟩ := hrel
    have HR := Lib.hid (And.intro hall hb)
    clear hall hb
    by_cases hlt : k < n
    · have hlt' : (k : Int) < (n : Int) := by omega
      obtain ⟨x, hx⟩ : ∃ x, us[k]? = some x := ⟨us[k]'(by have := HN.out; omega), by simp⟩
      have hxm := List.mem_of_getElem? hx
      have hat2 := HA.out.1.below HR.out.2
      obtain ⟨ab, ao, hAe, hab, hrng⟩ := ev_range hat2.row hx
      have HX := Lib.hid hx
      have hwx := HA.out.2 x hxm
      obtain ⟨L, hL⟩ : ∃ L, L = actCs x.act := ⟨_, rfl⟩
      have HSZ := Lib.hid (show (Tryd.prog.info? 39).map (·.size) = some L.length by rw [hL]; exact act_size)
      have HRG := Lib.hid (show wr.rangeAt ab (ao + k * 28 + 19) L from fun j v hj => by
        have h := hrng (19 + j) v (by
          rw [hL] at hj
          match j, hj with
          | 0, hj => exact hj
          | 1, hj => exact hj
          | 2, hj => exact hj
          | 3, hj => exact hj
          | 4, hj => exact hj
          | 5, hj => exact hj
          | 6, hj => exact hj
          | 7, hj => exact hj
          | j + 8, hj => simp [actCs] at hj)
        rwa [← Nat.add_assoc] at h)
      have HFA := Lib.hid (fewAct_any x.act wr ((hat2.evs x hxm).act.more HR.out.2.size) hwx.act)
      rw [show actV x.act = .agg L.toArray by rw [hL]; rfl] at HFA
      obtain ⟨l1, hl1⟩ : ∃ l, l = x.ebody.length := ⟨_, rfl⟩
      obtain ⟨l2, hl2⟩ : ∃ l, l = x.bytes.length := ⟨_, rfl⟩
      have hl1b : l1 ≤ 1048576 := by rw [hl1]; exact hwx.blen
      have hl2b : l2 ≤ 1048576 := by rw [hl2]; exact hwx.bytes
      have HLL := Lib.hid (And.intro hl1 hl2)
      have HC := Lib.hid (And.intro (show wr.cell? ⟨ab, ao + k * 28 + 8, none⟩ = some (.slice x.eA l1 x.ec) by rw [hl1]; exact hrng 8 _ rfl) (And.intro (show wr.cell? ⟨ab, ao + k * 28 + 27, none⟩ = some (.slice x.bA l2 x.bc) by rw [hl2]; exact hrng 27 _ rfl) hab))
      rw [hAe]
      clear hx hxm hat2 hAe hab hrng hwx hL hl1 hl2
      go_wp2_with ((with_reducible refine wpList_at 20 rfl ?_); refine wpList_load_mid rfl 39 (.tmp 19) rfl ab (ao + k * 28 + 19) rfl L _ HRG.out Tryd.underlying39 rfl HSZ.out ?_)
      refine HFA.out.mono ?_
      rintro e X1 ⟨⟨fb, rfl, hfb⟩, hb1⟩
      have HB1 := Lib.hid (HR.out.2.trans (hb1.mono HR.out.2.size))
      cases fb with
      | false =>
        clear hfb hb1
        go_wp2_with fail
        go_ret
        exact ⟨⟨false, rfl, fun h => by cases h⟩, HB1.out⟩
      | true =>
      have HSM := Lib.hid (hfb rfl)
      have hlw : ab < wr.heap.size := Nat.lt_of_lt_of_le HC.out.2.2 HR.out.2.size
      have c8 := (hb1.cell (p := ⟨ab, ao + k * 28 + 8, none⟩) hlw).trans HC.out.1
      have c27 := (hb1.cell (p := ⟨ab, ao + k * 28 + 27, none⟩) hlw).trans HC.out.2.1
      clear hfb hb1 hlw
      by_cases h8 : 300 < l1
      · have d8 : decide ((300 : Int) < (l1 : Int)) = true := decide_eq_true (by omega)
        clear h8
        go_wp2_with fail
        go_ret
        exact ⟨⟨false, rfl, fun h => by cases h⟩, HB1.out⟩
      have d8 : decide ((300 : Int) < (l1 : Int)) = false := decide_eq_false (by omega)
      by_cases h27 : 300 < l2
      · have d27 : decide ((300 : Int) < (l2 : Int)) = true := decide_eq_true (by omega)
        clear h8 h27
        go_wp2_with fail
        go_ret
        exact ⟨⟨false, rfl, fun h => by cases h⟩, HB1.out⟩
      have d27 : decide ((300 : Int) < (l2 : Int)) = false := decide_eq_false (by omega)
      have HFE : Hid (FewE x) := Lib.hid ⟨HSM.out, by have := HLL.out.1; omega, by have := HLL.out.2; omega⟩
      clear h8 h27
      go_wp2_with fail
      go_roundw
      case rel =>
        refine ⟨k + 1, by omega, by go_num, fun e he => ?_, HB1.out⟩
        rw [take_snoc HX.out] at he
        rcases List.mem_append.1 he with q | q
        · exact HR.out.1 e q
        · rw [List.mem_singleton.1 q]
          exact HFE.out
      case measure => simp [intOf]; omega
    · obtain rfl : k = n := by omega
      have HF : Hid (k ≤ most ∧ ∀ e ∈ us, FewE e) := Lib.hid ⟨HMM.out, by have h := HR.out.1; rwa [List.take_of_length_le (by have := HN.out; omega)] at h⟩
      go_wp2_with fail
      go_ret
      exact ⟨⟨true, rfl, fun _ => HF.out⟩, HR.out.2⟩
end
section
open Go.RowKit Go.Maps
open Go.Lib (itoa)

def wakeA : EvM := ⟨3, 9, 1, 7, 2, 0, 0, 0, none, 0, [], ord0, sta0, kindM 0, none, 0, []⟩
def wakeS : Wd := [57, 32, 111, 119, 110, 101, 114, 32, 55, 32, 49, 32, 50]
theorem wakeA_text : evT wakeA.con = wakeS := by decide +kernel
theorem wakeA_ok : EvOk wakeA.con := ⟨by decide, by decide, (fun h => absurd h (by decide)), rfl⟩
def wakeB : EvC := { ev0 with kind := 7, tick := 9, n := 4, eterm := 2, ekind := 2, ebody := [30, 18] }
def wakeT : Wd := [57, 32, 97, 112, 112, 108, 105, 101, 100, 32, 48, 32, 52, 32, 50, 32, 50, 32, 61, 49, 101, 49, 50]
theorem wakeB_text : evT wakeB = wakeT := by decide +kernel
theorem wakeB_ok : EvOk wakeB := ⟨by decide, by decide, (fun h => absurd h (by decide)), rfl⟩
theorem wakeB_v : VEv wakeB := by
  refine ⟨⟨by decide, by decide, rfl⟩, fun f hf => ?_⟩
  have hf : f ∈ [0, 3, 5] := hf
  simp only [List.mem_cons, List.mem_nil_iff, or_false] at hf
  rcases hf with rfl | rfl | rfl
  · show Is64 0; decide
  · show Is64 4; decide
  · show Is64 2 ∧ Is64 2; decide
theorem wakeA_r : EvR wakeA.con :=
  ⟨by decide, by decide, by decide, by decide, by decide, by decide, by decide, by decide, by decide, by decide, by decide, (bd_kind (k := 0) is64_0).r⟩
set_option maxRecDepth 100000 in
set_option maxHeartbeats 8000000 in
theorem wakes_any (w : World) (hr : Ready w) : Calls Tryd.prog 5 #[] w fun e w' => e = .returned (.bool true) ∧ Below w.heap.size w w' := by
  obtain ⟨C, hC⟩ : ∃ C, C = (evCs wakeA).toArray := ⟨_, rfl⟩
  have hv : evV wakeA = .agg C := by rw [hC]; rfl
  have hbt : Tryd.prog.built 41 [(0, .int .i64 3), (1, .int .i64 9), (3, .int .i64 7), (2, .int .i64 1), (4, .int .i64 2)] = some C := by rw [hC]; rfl
  have HF := Lib.hid (fmtEv_any wakeA w hr ⟨Sl.empty, ⟨SrcsAt.empty, Sl.empty⟩, Sl.empty⟩ ⟨by decide, (fun s hs => by cases hs), by decide⟩ wakeA_r (by decide) (by decide))
  rw [hv] at HF
  have HR := Lib.hid hr
  clear hC hv hr
  go_enter Tryd.func5, Tryd.ntmps5
  go_wp2_with (refine wpList_build_to rfl 41 #[(0, .const (.int .i64 3)), (1, .const (.int .i64 9)), (3, .const (.int .i64 7)), (2, .const (.int .i64 1)), (4, .const (.int .i64 2))] rfl C (by rw [Array.toList_map]; exact hbt) ?_)
  refine HF.out.mono ?_
  rintro e W1 ⟨hf, hb1⟩
  have he : e = .returned (.tuple #[.string ⟨#[57, 32, 111, 119, 110, 101, 114, 32, 55, 32, 49, 32, 50]⟩, .int .i64 0]) := by
    show e = .returned (.tuple #[.string (bs wakeS), .int .i64 0])
    rcases hf with ⟨_, _, h⟩ | ⟨_, h, _⟩ | ⟨h, _⟩
    · rw [h, wakeA_text]
    · rw [wakeA_text] at h
      exact absurd h (by decide)
    · exact absurd wakeA_ok h
  subst he
  have HP := Lib.hid (parseEv_any wakeT W1 (HR.out.below hb1))
  have HB1 := Lib.hid hb1
  clear hf hb1 hbt
  go_wp2_with fail
  refine HP.out.mono ?_
  rintro e W2 (⟨a, _, hva, hta, _, he, ho, _, hb2⟩ | ⟨hno, _⟩)
  rotate_left
  · rcases hno with h | h
    · exact absurd h (by decide)
    · exact absurd wakeB_text.symm (h wakeB wakeB_v wakeB_ok)
  have hab : a.con = wakeB := evT_inj hva wakeB_v (hta.symm.trans wakeB_text.symm)
  obtain ⟨D, hD⟩ : ∃ D, D = (evCs a).toArray := ⟨_, rfl⟩
  have hvd : evV a = .agg D := by rw [hD]; rfl
  rw [hvd] at he
  subst he
  have hb5 := below_new W2 (.cells D 41)
  have hn : a.n = 4 := congrArg EvC.n hab
  have ht : a.eterm = 2 := congrArg EvC.eterm hab
  have hbd : a.ebody = [30, 18] := congrArg EvC.ebody hab
  have c5 : D[5]? = some (.int .i64 4) := by rw [hD, ← hn]; rfl
  have c6 : D[6]? = some (.int .i64 2) := by rw [hD, ← ht]; rfl
  have c8 : D[8]? = some (.slice a.eA 2 a.ec) := by
    have h : D[8]? = some (.slice a.eA a.ebody.length a.ec) := by rw [hD]; rfl
    rwa [hbd] at h
  have hszd : (Tryd.prog.info? 41).map (·.size) = some D.size := by rw [hD]; exact ev_size
  have honed : D.all (·.oneCell') = true := by rw [hD]; exact evCs_one a
  have hat := ((ho.next hb5).at).body
  rw [hbd] at hat
  have hcv : (convert 30 9 (.slice a.eA 2 a.ec)).run Tryd.prog (W2.alloc (.cells D 41)) = .ok (.string ⟨#[30, 18]⟩) (W2.alloc (.cells D 41)) := bytes_str hat a.ec
  have HB5 := Lib.hid (show Below w.heap.size w (W2.alloc (.cells D 41)) from HB1.out.trans ((hb2.trans (hb5.mono hb2.size)).mono HB1.out.size))
  have hoy := new_obj W2 (.cells #[.int .i64 0, .int .i64 0, .int .i64 0, .int .i64 0, .int .i64 0, .int .i64 0, .int .i64 0, .int .i64 0, .slice none 0 0, .int .i64 0, .int .i64 0, .int .i64 0, .int .i64 0, .int .i64 0, .int .i64 0, .int .i64 0, .int .i64 0, .int .i64 0, .int .i64 0, .int .i64 0, .int .i64 0, .int .i64 0, .int .i64 0, .int .i64 0, .int .i64 0, .slice none 0 0, .slice none 0 0, .slice none 0 0] 41)
  have hold : (#[.int .i64 0, .int .i64 0, .int .i64 0, .int .i64 0, .int .i64 0, .int .i64 0, .int .i64 0, .int .i64 0, .slice none 0 0, .int .i64 0, .int .i64 0, .int .i64 0, .int .i64 0, .int .i64 0, .int .i64 0, .int .i64 0, .int .i64 0, .int .i64 0, .int .i64 0, .int .i64 0, .int .i64 0, .int .i64 0, .int .i64 0, .int .i64 0, .int .i64 0, .slice none 0 0, .slice none 0 0, .slice none 0 0] : Array Value).size = D.size := by rw [hD]; rfl
  have hwz := World.setRow_alloc_new W2 #[.int .i64 0, .int .i64 0, .int .i64 0, .int .i64 0, .int .i64 0, .int .i64 0, .int .i64 0, .int .i64 0, .slice none 0 0, .int .i64 0, .int .i64 0, .int .i64 0, .int .i64 0, .int .i64 0, .int .i64 0, .int .i64 0, .int .i64 0, .int .i64 0, .int .i64 0, .int .i64 0, .int .i64 0, .int .i64 0, .int .i64 0, .int .i64 0, .int .i64 0, .slice none 0 0, .slice none 0 0, .slice none 0 0] D 41
  have HD := Lib.hid (And.intro hszd (And.intro honed (And.intro hold hwz)))
  clear hD hvd hab hn ht hbd hva hta ho hb2 hb5 hat hszd honed hold hwz
  go_wp2_with (refine wpList_store_row rfl 41 (.tmp 3) (.tmp 12) rfl W2.heap.size D rfl rfl 41 _ hoy HD.out.1 HD.out.2.2.1 HD.out.2.1 ?_; rw [HD.out.2.2.2])
  go_ret
  exact ⟨rfl, HB5.out⟩
end
section
open Go.RowKit Go.Maps

theorem FmtsR.pair {l : List EvC} {e : Ending} (h : FmtsR l e) : ((∀ x ∈ l, FineE x) ∧ e = .returned (.tuple #[.string (bs (joinE l)), .int .i64 0])) ∨ ∃ z : Int, z ≠ 0 ∧ e = .returned (.tuple #[.string ⟨#[]⟩, .int .i64 z]) := by
  rcases h with h | ⟨i, x, _, _, _, h⟩
  · exact .inl h
  · refine .inr ⟨codeE x, ?_, h⟩
    unfold codeE
    split <;> decide
theorem few_evS {us : List EvM} (hw : ∀ e ∈ us, EvWf 1048576 e) (hf : ∀ e ∈ us, FewE e) : ∀ e ∈ us, EvS e := fun e he => by
  obtain ⟨h1, h2, h3⟩ := hf e he
  exact ⟨(hw e he).r (Nat.le_trans h1 (by decide)) (Nat.le_trans h2 (by decide)), (hw e he).act.l (by decide), Nat.le_trans h1 (by decide), Nat.le_trans h2 (by decide)⟩
theorem good_all {us : List EvM} (hs : ∀ e ∈ us, EvS e) (hf : ∀ x ∈ us.map EvM.con, FineE x) : ∀ x ∈ us.map EvM.con, GoodE x := by
  intro x hx
  obtain ⟨y, hy, rfl⟩ := List.mem_map.1 hx
  have h1 := hf y.con hx
  exact ⟨(hs y hy).r.vev h1.1, h1.1, h1.2⟩
/-- good traces are one exactly if their texts are. -/
theorem joinE_inj {l m : List EvC} (hl : ∀ x ∈ l, GoodE x) (hm : ∀ x ∈ m, GoodE x) : joinE l = joinE m ↔ l = m := by
  constructor
  · intro h
    have h1 := parT_join hl
    rw [h] at h1
    exact (parT_one h1 (parT_join hm)).1
  · intro h
    rw [h]
set_option maxRecDepth 100000 in
set_option maxHeartbeats 16000000 in
theorem trEquality_any (w : World) (hr : Ready w) (A B : Option Addr) (c d : Nat) (us vs : List EvM) (hat : EvsAt w w.heap.size A us) (hbt : EvsAt w w.heap.size B vs) (hwu : ∀ e ∈ us, EvWf 1048576 e) (hwv : ∀ e ∈ vs, EvWf 1048576 e) (hnu : us.length ≤ 1048576) (hnv : vs.length ≤ 1048576) :
    Calls Tryd.prog 3 #[.slice A us.length c, .slice B vs.length d] w fun e w' => e = .returned (.bool true) ∧ Below w.heap.size w w' := by
  have HAT := Lib.hid (show ∀ X : World, Below w.heap.size w X → EvsAt X X.heap.size A us ∧ EvsAt X X.heap.size B vs from fun X h => ⟨(hat.below h).more h.size, (hbt.below h).more h.size⟩)
  have HRD := Lib.hid (show ∀ X : World, Below w.heap.size w X → Ready X from fun X h => hr.below h)
  have HW := Lib.hid (And.intro hwu (And.intro hwv (And.intro hnu hnv)))
  have HWK := Lib.hid (wakes_any w hr)
  obtain ⟨n, hnn⟩ : ∃ n, n = us.length := ⟨_, rfl⟩
  obtain ⟨m, hmm⟩ : ∃ m, m = vs.length := ⟨_, rfl⟩
  have HN := Lib.hid (And.intro hnn hmm)
  rw [← hnn, ← hmm]
  clear hr hat hbt hwu hwv hnu hnv hnn hmm
  go_enter Tryd.func3, Tryd.ntmps3
  go_wp2_with fail
  refine HWK.out.mono ?_
  rintro e X1 ⟨rfl, hb⟩
  have HX1 := Lib.hid hb
  have HFW := Lib.hid (few_any X1 A c us 20 (HAT.out X1 hb).1 HW.out.1 HW.out.2.2.1)
  rw [← HN.out.1] at HFW
  clear hb HWK
  go_wp2_with fail
  refine HFW.out.mono ?_
  rintro e X2 ⟨⟨fb, rfl, hfb⟩, hb⟩
  have HX2 := Lib.hid (HX1.out.trans (hb.mono HX1.out.size))
  clear hb HFW
  cases fb with
  | false =>
    clear hfb
    go_wp2_with fail
    go_ret
    exact ⟨rfl, HX2.out⟩
  | true =>
  have HFU := Lib.hid (hfb rfl)
  have HFW := Lib.hid (few_any X2 B d vs 20 (HAT.out X2 HX2.out).2 HW.out.2.1 HW.out.2.2.2)
  rw [← HN.out.2] at HFW
  clear hfb
  go_wp2_with fail
  refine HFW.out.mono ?_
  rintro e X3 ⟨⟨fb, rfl, hfb⟩, hb⟩
  have HX3 := Lib.hid (HX2.out.trans (hb.mono HX2.out.size))
  clear hb HFW
  cases fb with
  | false =>
    clear hfb
    go_wp2_with fail
    go_ret
    exact ⟨rfl, HX3.out⟩
  | true =>
  have HFV := Lib.hid (hfb rfl)
  clear hfb
  have HSU := Lib.hid (few_evS HW.out.1 HFU.out.2)
  have HSV := Lib.hid (few_evS HW.out.2.1 HFV.out.2)
  have HL := Lib.hid (show us.length ≤ 100000 ∧ vs.length ≤ 100000 by have := HFU.out.1; have := HFV.out.1; have := HN.out; omega)
  have HEQ := Lib.hid (equal_any X3 A B c d us vs X3.heap.size X3.heap.size (HAT.out X3 HX3.out).1 (HAT.out X3 HX3.out).2 (Nat.le_refl _) (Nat.le_refl _) (fun e he => (HSU.out e he).l) (by have := HL.out; omega))
  rw [← HN.out.1, ← HN.out.2] at HEQ
  obtain ⟨q, hq⟩ : ∃ q, q = tb (us.map EvM.con = vs.map EvM.con) := ⟨_, rfl⟩
  have HQ := Lib.hid hq
  rw [← hq] at HEQ
  clear hq
  go_wp2_with fail
  refine HEQ.out.mono ?_
  rintro e X4 ⟨rfl, hb⟩
  have HX4 := Lib.hid (HX3.out.trans (hb.mono HX3.out.size))
  have HSM := Lib.hid (same51_any X4 A B c d us vs X4.heap.size X4.heap.size (HAT.out X4 HX4.out).1 (HAT.out X4 HX4.out).2 (Nat.le_refl _) (Nat.le_refl _) (fun e he => (HSU.out e he).l) (by have := HL.out; omega))
  rw [← HN.out.1, ← HN.out.2, ← HQ.out] at HSM
  have e0 : (q != q) = false := by cases q <;> rfl
  clear hb HEQ
  go_wp2_with fail
  refine HSM.out.mono ?_
  rintro e X5 ⟨rfl, hb⟩
  have HX5 := Lib.hid (HX4.out.trans (hb.mono HX4.out.size))
  have HEE := Lib.hid (equal_any X5 A A c c us us X5.heap.size X5.heap.size (HAT.out X5 HX5.out).1 (HAT.out X5 HX5.out).1 (Nat.le_refl _) (Nat.le_refl _) (fun e he => (HSU.out e he).l) (by have := HL.out; omega))
  rw [tb_true rfl, ← HN.out.1] at HEE
  clear hb HSM
  go_wp2_with fail
  refine HEE.out.mono ?_
  rintro e X6 ⟨rfl, hb⟩
  have HX6 := Lib.hid (HX5.out.trans (hb.mono HX5.out.size))
  have HFM := Lib.hid (format_any X6 (HRD.out X6 HX6.out) A c us (HAT.out X6 HX6.out).1 HSU.out HL.out.1)
  rw [← HN.out.1] at HFM
  clear hb HEE
  go_wp2_with fail
  refine HFM.out.mono ?_
  rintro e X7 ⟨hf, hb⟩
  have HX7 := Lib.hid (HX6.out.trans (hb.mono HX6.out.size))
  have HFN := Lib.hid (format_any X7 (HRD.out X7 HX7.out) B d vs (HAT.out X7 HX7.out).2 HSV.out HL.out.2)
  rw [← HN.out.2] at HFN
  clear hb HFM
  rcases hf.pair with ⟨hfine, rfl⟩ | ⟨z, hz, rfl⟩
  · have HF1 := Lib.hid hfine
    obtain ⟨S1, hS1⟩ : ∃ S, S = bs (joinE (us.map EvM.con)) := ⟨_, rfl⟩
    have HS1 := Lib.hid hS1
    rw [← hS1]
    clear hf hfine hS1
    go_wp2_with fail
    refine HFN.out.mono ?_
    rintro e X8 ⟨hf, hb⟩
    have HX8 := Lib.hid (HX7.out.trans (hb.mono HX7.out.size))
    clear hb HFN
    rcases hf.pair with ⟨hfine, rfl⟩ | ⟨z, hz, rfl⟩
    · have HJ := Lib.hid (joinE_inj (good_all HSU.out HF1.out) (good_all HSV.out hfine))
      obtain ⟨S2, hS2⟩ : ∃ S, S = bs (joinE (vs.map EvM.con)) := ⟨_, rfl⟩
      have HEV : Hid (S1.toList = S2.toList ↔ us.map EvM.con = vs.map EvM.con) := Lib.hid (by
        rw [HS1.out, hS2, ByteArray.toList_eq, ByteArray.toList_eq, bs_data, bs_data]
        exact HJ.out)
      rw [← hS2]
      clear hf hfine hS2
      by_cases hp : us.map EvM.con = vs.map EvM.con
      · have e1 : q = true := by rw [HQ.out]; exact tb_true hp
        have e2 : S1.toList = S2.toList := HEV.out.2 hp
        subst e1
        clear hp
        go_wp2_with fail
        go_ret
        exact ⟨rfl, HX8.out⟩
      · have e1 : q = false := by rw [HQ.out]; exact tb_false hp
        have e2 : (S1.toList == S2.toList) = false := beq_eq_false_iff_ne.2 (fun h => hp (HEV.out.1 h))
        subst e1
        clear hp
        go_wp2_with fail
        go_ret
        exact ⟨rfl, HX8.out⟩
    · have e1 : (z != 0) = true := by simpa using hz
      clear hz hf
      go_wp2_with fail
      go_ret
      exact ⟨rfl, HX8.out⟩
  · have e1 : (z != 0) = true := by simpa using hz
    clear hz
    go_wp2_with fail
    refine HFN.out.mono ?_
    rintro e X8 ⟨hf2, hb⟩
    have HX8 := Lib.hid (HX7.out.trans (hb.mono HX7.out.size))
    clear hb HFN
    rcases hf2.pair with ⟨_, rfl⟩ | ⟨z2, _, rfl⟩
    · clear hf hf2
      go_wp2_with fail
      go_ret
      exact ⟨rfl, HX8.out⟩
    · clear hf hf2
      go_wp2_with fail
      go_ret
      exact ⟨rfl, HX8.out⟩
end
end Go.Proofs.YtakdkiggaalimaaDoor
