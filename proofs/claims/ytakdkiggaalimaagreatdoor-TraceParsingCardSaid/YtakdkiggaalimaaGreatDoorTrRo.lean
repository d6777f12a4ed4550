/-
  trace.reader: order, status (printed by gentrro.py).
-/
import Derived.Test.YtakdkiggaalimaaGreatDoorTrRs
import Derived.Test.YtakdkiggaalimaaGreatDoorTrEq
namespace Go.Proofs.YtakdkiggaalimaaGreatDoor
open Go.RowKit Go.Maps
open Go.Lib (itoa)

/-- the block b holds the cells cs. -/
def Blk (X : World) (b : Nat) (T : TypeId) (cs : List Value) : Prop := X.heap[b]? = some (.cells cs.toArray T (0, 0))
theorem Blk.lt {X : World} {b : Nat} {T : TypeId} {cs : List Value} (h : Blk X b T cs) : b < X.heap.size := (Array.getElem?_eq_some_iff.1 h).1
theorem Blk.cell {X : World} {b : Nat} {T : TypeId} {cs : List Value} (h : Blk X b T cs) {j : Nat} {u : Value} (hj : cs[j]? = some u) : X.cell? ⟨b, j, none⟩ = some u := by
  rw [Lib.cell_of_heap h]
  simpa using hj
theorem Blk.free {X : World} {b : Nat} {T : TypeId} {cs : List Value} (h : Blk X b T cs) (j : Nat) : X.frozen? ⟨b, j, none⟩ = false := Lib.frozen_of_heap h j
theorem Blk.set {X : World} {b : Nat} {T : TypeId} {cs : List Value} (h : Blk X b T cs) (j : Nat) (u : Value) : Blk (X.setCell ⟨b, j, none⟩ u) b T (cs.set j u) := by
  unfold Blk
  rw [heap_setCell_same X b j _ _ _ h]
  simp
theorem Blk.other {X : World} {b : Nat} {T : TypeId} {cs : List Value} (h : Blk X b T cs) {g : Nat} (hg : b ≠ g) (j : Nat) (u : Value) : Blk (X.setCell ⟨g, j, none⟩ u) b T cs := (heap_setCell_other X ⟨g, j, none⟩ b u hg).trans h
theorem Blk.only {rb : Nat} {X Y : World} {b : Nat} {T : TypeId} {cs : List Value} (h : Blk X b T cs) (ho : OnlyR rb X Y) (hb : b ≠ rb) : Blk Y b T cs := (ho.block b h.lt hb).trans h
theorem two_blk (w : World) (cs ds : List Value) (t s : TypeId) : Blk ((w.alloc (.cells cs.toArray t)).alloc (.cells ds.toArray s)) w.heap.size t cs ∧ Blk ((w.alloc (.cells cs.toArray t)).alloc (.cells ds.toArray s)) (w.heap.size + 1) s ds := by
  have e : (w.alloc (.cells cs.toArray t)).heap.size = w.heap.size + 1 := by simp
  have h2 := new_obj (w.alloc (.cells cs.toArray t)) (.cells ds.toArray s)
  rw [e] at h2
  exact ⟨(Lib.alloc_old _ _ _ (by rw [e]; exact Nat.lt_succ_self _)).trans (new_obj _ _), h2⟩
/-- a cell of a block of one's own is stored. -/
theorem only_set {rb : Nat} {X Y : World} (h : OnlyR rb X Y) {b : Nat} (hb : X.heap.size ≤ b) (j : Nat) (u : Value) : OnlyR rb X (Y.setCell ⟨b, j, none⟩ u) := Only.setCell (S := fun b => b = rb) h (a := ⟨b, j, none⟩) (fun q => by have q : b < X.heap.size := q; omega) u
theorem RdAt.set {rb : Nat} {st : Option (List Wd)} {Y : World} (h : RdAt rb st Y) {b : Nat} (hb : rb < b) (j : Nat) (u : Value) : RdAt rb st (Y.setCell ⟨b, j, none⟩ u) := by
  have hl := h.lt
  obtain ⟨A, ws, c, bad, h1, h2, h3, h4, h5, h6⟩ := h
  have ho : Only (fun k => k = b) Y (Y.setCell ⟨b, j, none⟩ u) := Only.setCell (S := fun k => k = b) Only.refl (a := ⟨b, j, none⟩) (fun _ => rfl) u
  exact ⟨A, ws, c, bad, (ho.block rb hl (fun q => by have q : rb = b := q; omega)).trans h1, Sl.below h2 (ho.below (Nat.le_of_lt hl) (fun j q => by have q : j = b := q; omega)), h3, h4, h5, h6⟩
def VO (o : OrdC) : Prop := V5 o.unit o.epoch o.kind o.incident o.node
def ordW (o : OrdC) : List Wd := [itoa o.unit, itoa o.epoch, itoa o.kind, itoa o.incident, itoa o.node]
def VSt (o : StaC) : Prop := V5 o.unit o.seq o.state o.node o.epoch
def staW (o : StaC) : List Wd := [itoa o.unit, itoa o.seq, itoa o.state, itoa o.node, itoa o.epoch]
theorem vn5 {a b c d e : Int} : VN 5 [a, b, c, d, e] ↔ V5 a b c d e := by
  unfold VN V5
  simp
theorem Rds.ord {st st' : Option (List Wd)} {o : OrdC} (h : Rds (VN 5) numsW st st' [o.unit, o.epoch, o.kind, o.incident, o.node]) : Rds VO ordW st st' o :=
  Rds.of (fun o : OrdC => [o.unit, o.epoch, o.kind, o.incident, o.node]) (fun _ => vn5.symm) (fun _ => rfl) h
theorem Rds.sta {st st' : Option (List Wd)} {o : StaC} (h : Rds (VN 5) numsW st st' [o.unit, o.seq, o.state, o.node, o.epoch]) : Rds VSt staW st st' o :=
  Rds.of (fun o : StaC => [o.unit, o.seq, o.state, o.node, o.epoch]) (fun _ => vn5.symm) (fun _ => rfl) h
def RetRo (rb : Nat) (st : Option (List Wd)) (X : World) (e : Ending) (Y : World) : Prop :=
  ∃ (o : OrdC) (st' : Option (List Wd)), e = .returned (ordV o) ∧ RdAt rb st' Y ∧ OnlyR rb X Y ∧ VO o ∧ Rds VO ordW st st' o
def RetRt (rb : Nat) (st : Option (List Wd)) (X : World) (e : Ending) (Y : World) : Prop :=
  ∃ (o : StaC) (st' : Option (List Wd)), e = .returned (staV o) ∧ RdAt rb st' Y ∧ OnlyR rb X Y ∧ VSt o ∧ Rds VSt staW st st' o
set_option maxRecDepth 100000 in
set_option maxHeartbeats 4000000 in
theorem rord_any (rb : Nat) (st : Option (List Wd)) (X : World) (h : RdAt rb st X) (hr : Ready X) (hg : Tryz.prog.globals.size ≤ rb) : Calls Tryz.prog 60 #[.pointer (some ⟨rb, 0, none⟩)] X (RetRo rb st X) := by
  obtain ⟨hbo, hbt⟩ := two_blk X [.int .i64 0, .int .i64 0, .int .i64 0, .int .i64 0, .int .i64 0] [.int .i64 0, .int .i64 0, .int .i64 0, .int .i64 0, .int .i64 0] 27 27
  have hb0 : Below X.heap.size X ((X.alloc (.cells #[.int .i64 0, .int .i64 0, .int .i64 0, .int .i64 0, .int .i64 0] 27)).alloc (.cells #[.int .i64 0, .int .i64 0, .int .i64 0, .int .i64 0, .int .i64 0] 27)) := ((Below.refl _ _).alloc (Nat.le_refl _) _).alloc (by simp) _
  have hl := h.lt
  obtain ⟨X0, hX0⟩ : ∃ X0, X0 = (X.alloc (.cells #[.int .i64 0, .int .i64 0, .int .i64 0, .int .i64 0, .int .i64 0] 27)).alloc (.cells #[.int .i64 0, .int .i64 0, .int .i64 0, .int .i64 0, .int .i64 0] 27) := ⟨_, rfl⟩
  have HB := Lib.hid (show Blk X0 X.heap.size 27 [.int .i64 0, .int .i64 0, .int .i64 0, .int .i64 0, .int .i64 0] ∧ Blk X0 (X.heap.size + 1) 27 [.int .i64 0, .int .i64 0, .int .i64 0, .int .i64 0, .int .i64 0] by rw [hX0]; exact ⟨hbo, hbt⟩)
  rw [← hX0] at hb0
  have HO0 := Lib.hid (show OnlyR rb X X0 from .of hb0)
  have H0 := Lib.hid (h.next hb0)
  have HR := Lib.hid (And.intro hr (And.intro hg hl))
  have HN0 := Lib.hid (rnum_any rb st X0 H0.out (hr.below hb0) hg)
  have HS0 := Lib.hid (show Rds (VN 0) numsW st st [] from rds_nums_start st)
  clear h hr hg hbo hbt hb0
  go_enter Tryz.func60, Tryz.ntmps60
  go_wp2_with fail
  rw [← hX0]
  clear hX0
  refine HN0.out.mono ?_
  rintro e Y0 ⟨n0, st0, rfl, h1, ho1, h64, hrd⟩
  have HV0 := Lib.hid h64
  have HS1 := Lib.hid (HS0.out.nums_snoc hrd)
  have HBO := Lib.hid (HB.out.1.only ho1 (by omega))
  have HBT := Lib.hid (HB.out.2.only ho1 (by omega))
  have hy0 := HBT.out.cell (j := 0) rfl
  have hz0 := HBT.out.free 0
  have hlb := HBT.out.lt
  have HBN := Lib.hid (show Blk (Y0.setCell ⟨X.heap.size + 1, 0, none⟩ (.int .i64 n0)) X.heap.size 27 [.int .i64 0, .int .i64 0, .int .i64 0, .int .i64 0, .int .i64 0] ∧ Blk (Y0.setCell ⟨X.heap.size + 1, 0, none⟩ (.int .i64 n0)) (X.heap.size + 1) 27 [.int .i64 n0, .int .i64 0, .int .i64 0, .int .i64 0, .int .i64 0] from ⟨HBO.out.other (Nat.ne_of_lt (Nat.lt_succ_self _)) _ _, HBT.out.set 0 _⟩)
  have HO1 := Lib.hid (only_set (HO0.out.seq ho1) (Nat.le_succ _) 0 (.int .i64 n0))
  have H1 := Lib.hid (h1.set (b := X.heap.size + 1) (by omega) 0 (.int .i64 n0))
  have HN1 := Lib.hid (rnum_any rb st0 _ H1.out (HR.out.1.low HO1.out (Nat.le_of_lt HR.out.2.2) HR.out.2.1) HR.out.2.1)
  obtain ⟨Z0, hZ0⟩ : ∃ Z, Z = Y0.setCell ⟨X.heap.size + 1, 0, none⟩ (.int .i64 n0) := ⟨_, rfl⟩
  rw [← hZ0] at HBN HO1 H1 HN1
  clear HB
  have HB := HBN
  clear HBN h1 ho1 h64 hrd HBO HBT
  go_wp2_with fail
  rw [← hZ0]
  clear hZ0 hy0 hz0 hlb
  refine HN1.out.mono ?_
  rintro e Y1 ⟨n1, st1, rfl, h1, ho1, h64, hrd⟩
  have HV1 := Lib.hid h64
  have HS2 := Lib.hid (HS1.out.nums_snoc hrd)
  have HBO := Lib.hid (HB.out.1.only ho1 (by omega))
  have HBT := Lib.hid (HB.out.2.only ho1 (by omega))
  have hy0 := HBT.out.cell (j := 1) rfl
  have hz0 := HBT.out.free 1
  have hlb := HBT.out.lt
  have HBN := Lib.hid (show Blk (Y1.setCell ⟨X.heap.size + 1, 1, none⟩ (.int .i64 n1)) X.heap.size 27 [.int .i64 0, .int .i64 0, .int .i64 0, .int .i64 0, .int .i64 0] ∧ Blk (Y1.setCell ⟨X.heap.size + 1, 1, none⟩ (.int .i64 n1)) (X.heap.size + 1) 27 [.int .i64 n0, .int .i64 n1, .int .i64 0, .int .i64 0, .int .i64 0] from ⟨HBO.out.other (Nat.ne_of_lt (Nat.lt_succ_self _)) _ _, HBT.out.set 1 _⟩)
  have HO2 := Lib.hid (only_set (HO1.out.seq ho1) (Nat.le_succ _) 1 (.int .i64 n1))
  have H2 := Lib.hid (h1.set (b := X.heap.size + 1) (by omega) 1 (.int .i64 n1))
  have HN2 := Lib.hid (rnum_any rb st1 _ H2.out (HR.out.1.low HO2.out (Nat.le_of_lt HR.out.2.2) HR.out.2.1) HR.out.2.1)
  obtain ⟨Z1, hZ1⟩ : ∃ Z, Z = Y1.setCell ⟨X.heap.size + 1, 1, none⟩ (.int .i64 n1) := ⟨_, rfl⟩
  rw [← hZ1] at HBN HO2 H2 HN2
  clear HB
  have HB := HBN
  clear HBN h1 ho1 h64 hrd HBO HBT
  go_wp2_with fail
  rw [← hZ1]
  clear hZ1 hy0 hz0 hlb
  refine HN2.out.mono ?_
  rintro e Y2 ⟨n2, st2, rfl, h1, ho1, h64, hrd⟩
  have HV2 := Lib.hid h64
  have HS3 := Lib.hid (HS2.out.nums_snoc hrd)
  have HBO := Lib.hid (HB.out.1.only ho1 (by omega))
  have HBT := Lib.hid (HB.out.2.only ho1 (by omega))
  have hy0 := HBT.out.cell (j := 2) rfl
  have hz0 := HBT.out.free 2
  have hlb := HBT.out.lt
  have HBN := Lib.hid (show Blk (Y2.setCell ⟨X.heap.size + 1, 2, none⟩ (.int .i64 n2)) X.heap.size 27 [.int .i64 0, .int .i64 0, .int .i64 0, .int .i64 0, .int .i64 0] ∧ Blk (Y2.setCell ⟨X.heap.size + 1, 2, none⟩ (.int .i64 n2)) (X.heap.size + 1) 27 [.int .i64 n0, .int .i64 n1, .int .i64 n2, .int .i64 0, .int .i64 0] from ⟨HBO.out.other (Nat.ne_of_lt (Nat.lt_succ_self _)) _ _, HBT.out.set 2 _⟩)
  have HO3 := Lib.hid (only_set (HO2.out.seq ho1) (Nat.le_succ _) 2 (.int .i64 n2))
  have H3 := Lib.hid (h1.set (b := X.heap.size + 1) (by omega) 2 (.int .i64 n2))
  have HN3 := Lib.hid (rnum_any rb st2 _ H3.out (HR.out.1.low HO3.out (Nat.le_of_lt HR.out.2.2) HR.out.2.1) HR.out.2.1)
  obtain ⟨Z2, hZ2⟩ : ∃ Z, Z = Y2.setCell ⟨X.heap.size + 1, 2, none⟩ (.int .i64 n2) := ⟨_, rfl⟩
  rw [← hZ2] at HBN HO3 H3 HN3
  clear HB
  have HB := HBN
  clear HBN h1 ho1 h64 hrd HBO HBT
  go_wp2_with fail
  rw [← hZ2]
  clear hZ2 hy0 hz0 hlb
  refine HN3.out.mono ?_
  rintro e Y3 ⟨n3, st3, rfl, h1, ho1, h64, hrd⟩
  have HV3 := Lib.hid h64
  have HS4 := Lib.hid (HS3.out.nums_snoc hrd)
  have HBO := Lib.hid (HB.out.1.only ho1 (by omega))
  have HBT := Lib.hid (HB.out.2.only ho1 (by omega))
  have hy0 := HBT.out.cell (j := 3) rfl
  have hz0 := HBT.out.free 3
  have hlb := HBT.out.lt
  have HBN := Lib.hid (show Blk (Y3.setCell ⟨X.heap.size + 1, 3, none⟩ (.int .i64 n3)) X.heap.size 27 [.int .i64 0, .int .i64 0, .int .i64 0, .int .i64 0, .int .i64 0] ∧ Blk (Y3.setCell ⟨X.heap.size + 1, 3, none⟩ (.int .i64 n3)) (X.heap.size + 1) 27 [.int .i64 n0, .int .i64 n1, .int .i64 n2, .int .i64 n3, .int .i64 0] from ⟨HBO.out.other (Nat.ne_of_lt (Nat.lt_succ_self _)) _ _, HBT.out.set 3 _⟩)
  have HO4 := Lib.hid (only_set (HO3.out.seq ho1) (Nat.le_succ _) 3 (.int .i64 n3))
  have H4 := Lib.hid (h1.set (b := X.heap.size + 1) (by omega) 3 (.int .i64 n3))
  have HN4 := Lib.hid (rnum_any rb st3 _ H4.out (HR.out.1.low HO4.out (Nat.le_of_lt HR.out.2.2) HR.out.2.1) HR.out.2.1)
  obtain ⟨Z3, hZ3⟩ : ∃ Z, Z = Y3.setCell ⟨X.heap.size + 1, 3, none⟩ (.int .i64 n3) := ⟨_, rfl⟩
  rw [← hZ3] at HBN HO4 H4 HN4
  clear HB
  have HB := HBN
  clear HBN h1 ho1 h64 hrd HBO HBT
  go_wp2_with fail
  rw [← hZ3]
  clear hZ3 hy0 hz0 hlb
  refine HN4.out.mono ?_
  rintro e Y4 ⟨n4, st4, rfl, h1, ho1, h64, hrd⟩
  have HV4 := Lib.hid h64
  have HS5 := Lib.hid (HS4.out.nums_snoc hrd)
  have HBO := Lib.hid (HB.out.1.only ho1 (by omega))
  have HBT := Lib.hid (HB.out.2.only ho1 (by omega))
  have hy0 := HBT.out.cell (j := 4) rfl
  have hz0 := HBT.out.free 4
  have hlb := HBT.out.lt
  have HBN := Lib.hid (show Blk (Y4.setCell ⟨X.heap.size + 1, 4, none⟩ (.int .i64 n4)) X.heap.size 27 [.int .i64 0, .int .i64 0, .int .i64 0, .int .i64 0, .int .i64 0] ∧ Blk (Y4.setCell ⟨X.heap.size + 1, 4, none⟩ (.int .i64 n4)) (X.heap.size + 1) 27 [.int .i64 n0, .int .i64 n1, .int .i64 n2, .int .i64 n3, .int .i64 n4] from ⟨HBO.out.other (Nat.ne_of_lt (Nat.lt_succ_self _)) _ _, HBT.out.set 4 _⟩)
  have HO5 := Lib.hid (only_set (HO4.out.seq ho1) (Nat.le_succ _) 4 (.int .i64 n4))
  have H5 := Lib.hid (h1.set (b := X.heap.size + 1) (by omega) 4 (.int .i64 n4))
  have w0 := HBT.out.cell (j := 0) rfl
  have w1 := HBT.out.cell (j := 1) rfl
  have w2 := HBT.out.cell (j := 2) rfl
  have w3 := HBT.out.cell (j := 3) rfl
  have o0 := HBO.out.cell (j := 0) rfl
  have o1 := HBO.out.cell (j := 1) rfl
  have o2 := HBO.out.cell (j := 2) rfl
  have o3 := HBO.out.cell (j := 3) rfl
  have o4 := HBO.out.cell (j := 4) rfl
  have of := HBO.out.free
  have f0 := of 0
  have f1 := of 1
  have f2 := of 2
  have f3 := of 3
  have f4 := of 4
  have hne1 : ¬ X.heap.size = X.heap.size + 1 := by omega
  have hlo := HBO.out.lt
  clear h1 ho1 h64 hrd HBO HBT HB HBN of
  go_wp2_with fail
  refine bodyPost_ret (v := ordV ⟨n0, n1, n2, n3, n4⟩) (by simp [results, Tryz.results60, go_sem, o0, o1, o2, o3, o4, ordV]) rfl ?_
  exact ⟨⟨n0, n1, n2, n3, n4⟩, st4, rfl, ((((H5.out.set (b := X.heap.size) (by omega) 0 _).set (b := X.heap.size) (by omega) 1 _).set (b := X.heap.size) (by omega) 2 _).set (b := X.heap.size) (by omega) 3 _).set (b := X.heap.size) (by omega) 4 _, only_set (only_set (only_set (only_set (only_set HO5.out (Nat.le_refl _) 0 _) (Nat.le_refl _) 1 _) (Nat.le_refl _) 2 _) (Nat.le_refl _) 3 _) (Nat.le_refl _) 4 _, ⟨HV0.out, HV1.out, HV2.out, HV3.out, HV4.out⟩, HS5.out.ord⟩
set_option maxRecDepth 100000 in
set_option maxHeartbeats 4000000 in
theorem rsta_any (rb : Nat) (st : Option (List Wd)) (X : World) (h : RdAt rb st X) (hr : Ready X) (hg : Tryz.prog.globals.size ≤ rb) : Calls Tryz.prog 61 #[.pointer (some ⟨rb, 0, none⟩)] X (RetRt rb st X) := by
  obtain ⟨hbo, hbt⟩ := two_blk X [.int .i64 0, .int .i64 0, .int .i64 0, .int .i64 0, .int .i64 0] [.int .i64 0, .int .i64 0, .int .i64 0, .int .i64 0, .int .i64 0] 29 29
  have hb0 : Below X.heap.size X ((X.alloc (.cells #[.int .i64 0, .int .i64 0, .int .i64 0, .int .i64 0, .int .i64 0] 29)).alloc (.cells #[.int .i64 0, .int .i64 0, .int .i64 0, .int .i64 0, .int .i64 0] 29)) := ((Below.refl _ _).alloc (Nat.le_refl _) _).alloc (by simp) _
  have hl := h.lt
  obtain ⟨X0, hX0⟩ : ∃ X0, X0 = (X.alloc (.cells #[.int .i64 0, .int .i64 0, .int .i64 0, .int .i64 0, .int .i64 0] 29)).alloc (.cells #[.int .i64 0, .int .i64 0, .int .i64 0, .int .i64 0, .int .i64 0] 29) := ⟨_, rfl⟩
  have HB := Lib.hid (show Blk X0 X.heap.size 29 [.int .i64 0, .int .i64 0, .int .i64 0, .int .i64 0, .int .i64 0] ∧ Blk X0 (X.heap.size + 1) 29 [.int .i64 0, .int .i64 0, .int .i64 0, .int .i64 0, .int .i64 0] by rw [hX0]; exact ⟨hbo, hbt⟩)
  rw [← hX0] at hb0
  have HO0 := Lib.hid (show OnlyR rb X X0 from .of hb0)
  have H0 := Lib.hid (h.next hb0)
  have HR := Lib.hid (And.intro hr (And.intro hg hl))
  have HN0 := Lib.hid (rnum_any rb st X0 H0.out (hr.below hb0) hg)
  have HS0 := Lib.hid (show Rds (VN 0) numsW st st [] from rds_nums_start st)
  clear h hr hg hbo hbt hb0
  go_enter Tryz.func61, Tryz.ntmps61
  go_wp2_with fail
  rw [← hX0]
  clear hX0
  refine HN0.out.mono ?_
  rintro e Y0 ⟨n0, st0, rfl, h1, ho1, h64, hrd⟩
  have HV0 := Lib.hid h64
  have HS1 := Lib.hid (HS0.out.nums_snoc hrd)
  have HBO := Lib.hid (HB.out.1.only ho1 (by omega))
  have HBT := Lib.hid (HB.out.2.only ho1 (by omega))
  have hy0 := HBT.out.cell (j := 0) rfl
  have hz0 := HBT.out.free 0
  have hlb := HBT.out.lt
  have HBN := Lib.hid (show Blk (Y0.setCell ⟨X.heap.size + 1, 0, none⟩ (.int .i64 n0)) X.heap.size 29 [.int .i64 0, .int .i64 0, .int .i64 0, .int .i64 0, .int .i64 0] ∧ Blk (Y0.setCell ⟨X.heap.size + 1, 0, none⟩ (.int .i64 n0)) (X.heap.size + 1) 29 [.int .i64 n0, .int .i64 0, .int .i64 0, .int .i64 0, .int .i64 0] from ⟨HBO.out.other (Nat.ne_of_lt (Nat.lt_succ_self _)) _ _, HBT.out.set 0 _⟩)
  have HO1 := Lib.hid (only_set (HO0.out.seq ho1) (Nat.le_succ _) 0 (.int .i64 n0))
  have H1 := Lib.hid (h1.set (b := X.heap.size + 1) (by omega) 0 (.int .i64 n0))
  have HN1 := Lib.hid (rnum_any rb st0 _ H1.out (HR.out.1.low HO1.out (Nat.le_of_lt HR.out.2.2) HR.out.2.1) HR.out.2.1)
  obtain ⟨Z0, hZ0⟩ : ∃ Z, Z = Y0.setCell ⟨X.heap.size + 1, 0, none⟩ (.int .i64 n0) := ⟨_, rfl⟩
  rw [← hZ0] at HBN HO1 H1 HN1
  clear HB
  have HB := HBN
  clear HBN h1 ho1 h64 hrd HBO HBT
  go_wp2_with fail
  rw [← hZ0]
  clear hZ0 hy0 hz0 hlb
  refine HN1.out.mono ?_
  rintro e Y1 ⟨n1, st1, rfl, h1, ho1, h64, hrd⟩
  have HV1 := Lib.hid h64
  have HS2 := Lib.hid (HS1.out.nums_snoc hrd)
  have HBO := Lib.hid (HB.out.1.only ho1 (by omega))
  have HBT := Lib.hid (HB.out.2.only ho1 (by omega))
  have hy0 := HBT.out.cell (j := 1) rfl
  have hz0 := HBT.out.free 1
  have hlb := HBT.out.lt
  have HBN := Lib.hid (show Blk (Y1.setCell ⟨X.heap.size + 1, 1, none⟩ (.int .i64 n1)) X.heap.size 29 [.int .i64 0, .int .i64 0, .int .i64 0, .int .i64 0, .int .i64 0] ∧ Blk (Y1.setCell ⟨X.heap.size + 1, 1, none⟩ (.int .i64 n1)) (X.heap.size + 1) 29 [.int .i64 n0, .int .i64 n1, .int .i64 0, .int .i64 0, .int .i64 0] from ⟨HBO.out.other (Nat.ne_of_lt (Nat.lt_succ_self _)) _ _, HBT.out.set 1 _⟩)
  have HO2 := Lib.hid (only_set (HO1.out.seq ho1) (Nat.le_succ _) 1 (.int .i64 n1))
  have H2 := Lib.hid (h1.set (b := X.heap.size + 1) (by omega) 1 (.int .i64 n1))
  have HN2 := Lib.hid (rnum_any rb st1 _ H2.out (HR.out.1.low HO2.out (Nat.le_of_lt HR.out.2.2) HR.out.2.1) HR.out.2.1)
  obtain ⟨Z1, hZ1⟩ : ∃ Z, Z = Y1.setCell ⟨X.heap.size + 1, 1, none⟩ (.int .i64 n1) := ⟨_, rfl⟩
  rw [← hZ1] at HBN HO2 H2 HN2
  clear HB
  have HB := HBN
  clear HBN h1 ho1 h64 hrd HBO HBT
  go_wp2_with fail
  rw [← hZ1]
  clear hZ1 hy0 hz0 hlb
  refine HN2.out.mono ?_
  rintro e Y2 ⟨n2, st2, rfl, h1, ho1, h64, hrd⟩
  have HV2 := Lib.hid h64
  have HS3 := Lib.hid (HS2.out.nums_snoc hrd)
  have HBO := Lib.hid (HB.out.1.only ho1 (by omega))
  have HBT := Lib.hid (HB.out.2.only ho1 (by omega))
  have hy0 := HBT.out.cell (j := 2) rfl
  have hz0 := HBT.out.free 2
  have hlb := HBT.out.lt
  have HBN := Lib.hid (show Blk (Y2.setCell ⟨X.heap.size + 1, 2, none⟩ (.int .i64 n2)) X.heap.size 29 [.int .i64 0, .int .i64 0, .int .i64 0, .int .i64 0, .int .i64 0] ∧ Blk (Y2.setCell ⟨X.heap.size + 1, 2, none⟩ (.int .i64 n2)) (X.heap.size + 1) 29 [.int .i64 n0, .int .i64 n1, .int .i64 n2, .int .i64 0, .int .i64 0] from ⟨HBO.out.other (Nat.ne_of_lt (Nat.lt_succ_self _)) _ _, HBT.out.set 2 _⟩)
  have HO3 := Lib.hid (only_set (HO2.out.seq ho1) (Nat.le_succ _) 2 (.int .i64 n2))
  have H3 := Lib.hid (h1.set (b := X.heap.size + 1) (by omega) 2 (.int .i64 n2))
  have HN3 := Lib.hid (rnum_any rb st2 _ H3.out (HR.out.1.low HO3.out (Nat.le_of_lt HR.out.2.2) HR.out.2.1) HR.out.2.1)
  obtain ⟨Z2, hZ2⟩ : ∃ Z, Z = Y2.setCell ⟨X.heap.size + 1, 2, none⟩ (.int .i64 n2) := ⟨_, rfl⟩
  rw [← hZ2] at HBN HO3 H3 HN3
  clear HB
  have HB := HBN
  clear HBN h1 ho1 h64 hrd HBO HBT
  go_wp2_with fail
  rw [← hZ2]
  clear hZ2 hy0 hz0 hlb
  refine HN3.out.mono ?_
  rintro e Y3 ⟨n3, st3, rfl, h1, ho1, h64, hrd⟩
  have HV3 := Lib.hid h64
  have HS4 := Lib.hid (HS3.out.nums_snoc hrd)
  have HBO := Lib.hid (HB.out.1.only ho1 (by omega))
  have HBT := Lib.hid (HB.out.2.only ho1 (by omega))
  have hy0 := HBT.out.cell (j := 3) rfl
  have hz0 := HBT.out.free 3
  have hlb := HBT.out.lt
  have HBN := Lib.hid (show Blk (Y3.setCell ⟨X.heap.size + 1, 3, none⟩ (.int .i64 n3)) X.heap.size 29 [.int .i64 0, .int .i64 0, .int .i64 0, .int .i64 0, .int .i64 0] ∧ Blk (Y3.setCell ⟨X.heap.size + 1, 3, none⟩ (.int .i64 n3)) (X.heap.size + 1) 29 [.int .i64 n0, .int .i64 n1, .int .i64 n2, .int .i64 n3, .int .i64 0] from ⟨HBO.out.other (Nat.ne_of_lt (Nat.lt_succ_self _)) _ _, HBT.out.set 3 _⟩)
  have HO4 := Lib.hid (only_set (HO3.out.seq ho1) (Nat.le_succ _) 3 (.int .i64 n3))
  have H4 := Lib.hid (h1.set (b := X.heap.size + 1) (by omega) 3 (.int .i64 n3))
  have HN4 := Lib.hid (rnum_any rb st3 _ H4.out (HR.out.1.low HO4.out (Nat.le_of_lt HR.out.2.2) HR.out.2.1) HR.out.2.1)
  obtain ⟨Z3, hZ3⟩ : ∃ Z, Z = Y3.setCell ⟨X.heap.size + 1, 3, none⟩ (.int .i64 n3) := ⟨_, rfl⟩
  rw [← hZ3] at HBN HO4 H4 HN4
  clear HB
  have HB := HBN
  clear HBN h1 ho1 h64 hrd HBO HBT
  go_wp2_with fail
  rw [← hZ3]
  clear hZ3 hy0 hz0 hlb
  refine HN4.out.mono ?_
  rintro e Y4 ⟨n4, st4, rfl, h1, ho1, h64, hrd⟩
  have HV4 := Lib.hid h64
  have HS5 := Lib.hid (HS4.out.nums_snoc hrd)
  have HBO := Lib.hid (HB.out.1.only ho1 (by omega))
  have HBT := Lib.hid (HB.out.2.only ho1 (by omega))
  have hy0 := HBT.out.cell (j := 4) rfl
  have hz0 := HBT.out.free 4
  have hlb := HBT.out.lt
  have HBN := Lib.hid (show Blk (Y4.setCell ⟨X.heap.size + 1, 4, none⟩ (.int .i64 n4)) X.heap.size 29 [.int .i64 0, .int .i64 0, .int .i64 0, .int .i64 0, .int .i64 0] ∧ Blk (Y4.setCell ⟨X.heap.size + 1, 4, none⟩ (.int .i64 n4)) (X.heap.size + 1) 29 [.int .i64 n0, .int .i64 n1, .int .i64 n2, .int .i64 n3, .int .i64 n4] from ⟨HBO.out.other (Nat.ne_of_lt (Nat.lt_succ_self _)) _ _, HBT.out.set 4 _⟩)
  have HO5 := Lib.hid (only_set (HO4.out.seq ho1) (Nat.le_succ _) 4 (.int .i64 n4))
  have H5 := Lib.hid (h1.set (b := X.heap.size + 1) (by omega) 4 (.int .i64 n4))
  have w0 := HBT.out.cell (j := 0) rfl
  have w1 := HBT.out.cell (j := 1) rfl
  have w2 := HBT.out.cell (j := 2) rfl
  have w3 := HBT.out.cell (j := 3) rfl
  have o0 := HBO.out.cell (j := 0) rfl
  have o1 := HBO.out.cell (j := 1) rfl
  have o2 := HBO.out.cell (j := 2) rfl
  have o3 := HBO.out.cell (j := 3) rfl
  have o4 := HBO.out.cell (j := 4) rfl
  have of := HBO.out.free
  have f0 := of 0
  have f1 := of 1
  have f2 := of 2
  have f3 := of 3
  have f4 := of 4
  have hne1 : ¬ X.heap.size = X.heap.size + 1 := by omega
  have hlo := HBO.out.lt
  clear h1 ho1 h64 hrd HBO HBT HB HBN of
  go_wp2_with fail
  refine bodyPost_ret (v := staV ⟨n0, n1, n2, n3, n4⟩) (by simp [results, Tryz.results61, go_sem, o0, o1, o2, o3, o4, staV]) rfl ?_
  exact ⟨⟨n0, n1, n2, n3, n4⟩, st4, rfl, ((((H5.out.set (b := X.heap.size) (by omega) 0 _).set (b := X.heap.size) (by omega) 1 _).set (b := X.heap.size) (by omega) 2 _).set (b := X.heap.size) (by omega) 3 _).set (b := X.heap.size) (by omega) 4 _, only_set (only_set (only_set (only_set (only_set HO5.out (Nat.le_refl _) 0 _) (Nat.le_refl _) 1 _) (Nat.le_refl _) 2 _) (Nat.le_refl _) 3 _) (Nat.le_refl _) 4 _, ⟨HV0.out, HV1.out, HV2.out, HV3.out, HV4.out⟩, HS5.out.sta⟩
end Go.Proofs.YtakdkiggaalimaaGreatDoor
