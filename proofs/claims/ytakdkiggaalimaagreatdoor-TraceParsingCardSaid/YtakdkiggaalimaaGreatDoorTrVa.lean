/-
  trace.validAction, trace.validEvent (printed by gentrva.py).
-/
import Derived.Test.YtakdkiggaalimaaGreatDoorTrEq
namespace Go.Proofs.YtakdkiggaalimaaGreatDoor
open Go.RowKit Go.Maps
open Go.Lib (itoa)

theorem emp_yes {l : List UInt8} (h : l = []) : (bs l).toList.isEmpty = true := by
  subst h
  rw [ByteArray.toList_eq, bs_data]
  rfl
theorem emp_no {l : List UInt8} (h : l ≠ []) : (bs l).toList.isEmpty = false := by
  rw [ByteArray.toList_eq, bs_data]
  cases l with
  | nil => exact absurd rfl h
  | cons x r => rfl
/-- an action in memory without a field. -/
def clrM (a : ActM) : Nat → ActM
  | 0 => { a with who := 0 }
  | 1 => { a with n := 0 }
  | 2 => { a with call := 0 }
  | 3 => { a with other := 0 }
  | 4 => { a with node := 0 }
  | 5 => { a with sA := none, sc := 0, srcs := [] }
  | _ => { a with gA := none, gc := 0, groups := [] }
theorem clrM_con (a : ActM) (f : Nat) : (clrM a f).con = aPut act0 a.con f := by
  rcases f with _ | _ | _ | _ | _ | _ | f <;> rfl
theorem clrM_kind (a : ActM) (f : Nat) : (clrM a f).kind = a.kind := by
  rcases f with _ | _ | _ | _ | _ | _ | f <;> rfl
theorem ActAt.clr {w : World} {B : Nat} {a : ActM} (h : ActAt w B a) (f : Nat) : ActAt w B (clrM a f) := by
  rcases f with _ | _ | _ | _ | _ | _ | f
  · exact ⟨h.srcs, h.groups⟩
  · exact ⟨h.srcs, h.groups⟩
  · exact ⟨h.srcs, h.groups⟩
  · exact ⟨h.srcs, h.groups⟩
  · exact ⟨h.srcs, h.groups⟩
  · exact ⟨SrcsAt.empty, h.groups⟩
  · exact ⟨h.srcs, Sl.empty⟩
/-- lengths as an int has them. -/
structure ActL (a : ActM) : Prop where
  ns : a.srcs.length ≤ 9223372036854775807
  nn : ∀ s ∈ a.srcs, s.nodes.length ≤ 9223372036854775807
  ng : a.groups.length ≤ 9223372036854775807
theorem ActL.clr {a : ActM} (h : ActL a) (f : Nat) : ActL (clrM a f) := by
  rcases f with _ | _ | _ | _ | _ | _ | f
  · exact ⟨h.ns, h.nn, h.ng⟩
  · exact ⟨h.ns, h.nn, h.ng⟩
  · exact ⟨h.ns, h.nn, h.ng⟩
  · exact ⟨h.ns, h.nn, h.ng⟩
  · exact ⟨h.ns, h.nn, h.ng⟩
  · exact ⟨by show 0 ≤ _; omega, (fun s hs => by cases hs), h.ng⟩
  · exact ⟨h.ns, h.nn, by show 0 ≤ _; omega⟩
def zeroF (f : Nat) : Value := if f < 5 then .int .i64 0 else .slice none 0 0
theorem BoxA.clr {X : World} {b : Nat} {a : ActM} (h : BoxA X b a) {f : Nat} (hf : f < 7) : BoxA (X.setCell ⟨b, f + 1, none⟩ (zeroF f)) b (clrM a f) := by
  refine ⟨?_⟩
  rw [heap_setCell_same X b (f + 1) _ _ _ h.hb]
  rcases f with _ | _ | _ | _ | _ | _ | _ | f
  · rfl
  · rfl
  · rfl
  · rfl
  · rfl
  · rfl
  · rfl
  · omega
theorem BoxA.free {X : World} {b : Nat} {a : ActM} (h : BoxA X b a) (j : Nat) : X.frozen? ⟨b, j, none⟩ = false := Lib.frozen_of_heap h.hb j
theorem fields_set {X : World} {A : Option Addr} {fs : List Nat} (h : FieldsAt X A fs) {b j : Nat} {v : Value} (hb : ∃ (cs : Array Value) (T : TypeId) (fr : Nat × Nat), X.heap[b]? = some (Obj.cells cs T fr) ∧ T ≠ 3) : FieldsAt (X.setCell ⟨b, j, none⟩ v) A fs := fields_heap h fun g cs fr q => by
  refine heap_setCell_other X ⟨b, j, none⟩ g v (fun e => ?_)
  obtain ⟨cs', T, fr', q2, hne⟩ := hb
  have e : g = b := e
  rw [e, q2] at q
  injection q with q
  injection q with _ q _
  exact hne q
/-- an action that has nothing but its kind. -/
def kindM (k : Int) : ActM := ⟨k, 0, 0, 0, 0, 0, none, 0, [], none, 0, []⟩
theorem kindM_con (k : Int) : (kindM k).con = kindA k := rfl
theorem kindM_at {w : World} {B : Nat} (k : Int) : ActAt w B (kindM k) := ⟨SrcsAt.empty, Sl.empty⟩
set_option maxRecDepth 100000 in
set_option maxHeartbeats 8000000 in
theorem vAct_any (a : ActM) (w : World) (hat : ActAt w w.heap.size a) (hl : ActL a) : Calls Tryz.prog 44 #[actV a] w fun e w' => e = .returned (.bool (tb (ActOk a.con))) ∧ Below w.heap.size w w' := by
  have HBX1 := Lib.hid (BoxA.new w a)
  have HB1 := Lib.hid (show Below w.heap.size w (w.alloc (.cells (actCs a).toArray 33)) from (Below.refl _ _).alloc (Nat.le_refl _) _)
  have HA := Lib.hid (And.intro hat hl)
  obtain ⟨k, hk⟩ : ∃ k, k = a.kind := ⟨_, rfl⟩
  have HK := Lib.hid hk
  obtain ⟨W1, hW1⟩ : ∃ W1, W1 = w.alloc (.cells (actCs a).toArray 33) := ⟨_, rfl⟩
  rw [← hW1] at HBX1 HB1
  have c0 := HBX1.out.cell (j := 0) rfl
  rw [← hk] at c0
  have HFL := Lib.hid (aFields_any W1 k)
  have HOK : Hid (ActOk a.con ↔ actN k ≠ [] ∧ aClr (actF k) a.con = kindA k) := Lib.hid (by rw [hk]; exact Iff.rfl)
  obtain ⟨Q, hQ⟩ : ∃ Q : Prop, Q = ActOk a.con := ⟨_, rfl⟩
  rw [← hQ] at HOK ⊢
  unfold actV
  rw [← hk]
  unfold actCs at hW1
  rw [← hk] at hW1
  clear hat hl hk hQ
  go_enter Tryz.func44, Tryz.ntmps44
  go_wp2_with fail
  rw [← hW1]
  clear hW1
  refine HFL.out.mono ?_
  rintro e W2 ⟨A, rfl, hfa, hw2⟩
  have HFA := Lib.hid hfa
  have HB2 : Hid (Below W1.heap.size W1 W2) := Lib.hid (by
    rcases hw2 with rfl | rfl
    · exact Below.refl _ _
    · exact (Below.refl _ _).alloc (Nat.le_refl _) _)
  clear hfa hw2 c0
  by_cases hname : actN k = []
  · have e1 := emp_yes hname
    have HN : Hid (¬ Q) := Lib.hid (fun h => (HOK.out.1 h).1 hname)
    clear hname
    go_wp2_with fail
    go_ret
    exact ⟨ret_no HN.out, HB1.out.trans (HB2.out.mono HB1.out.size)⟩
  have e1 := emp_no hname
  have HNM := Lib.hid hname
  have HBX2 := Lib.hid (HBX1.out.next HB2.out)
  have HB02 := Lib.hid (show Below w.heap.size w W2 from HB1.out.trans (HB2.out.mono HB1.out.size))
  obtain ⟨fs, hfs⟩ : ∃ fs, fs = actF k := ⟨_, rfl⟩
  have HFS := Lib.hid hfs
  rw [← hfs] at HFA ⊢
  obtain ⟨m, hm⟩ : ∃ m, m = fs.length := ⟨_, rfl⟩
  have HM := Lib.hid hm
  have hm3 : m ≤ 3 := by rw [hm, hfs]; exact actF_len k
  rw [← hm]
  clear hfs hm hname
  go_wp2_with fail
  go_loopw [17] (fun iv X => ∃ (j : Nat) (x : ActM), j ≤ m ∧ iv = .int .i64 j ∧ x.con = aPuts act0 (fs.take j) a.con ∧ x.kind = k ∧ ActAt w w.heap.size x ∧ ActL x ∧ Below w.heap.size w X ∧ BoxA X w.heap.size x ∧ FieldsAt X A fs) (fun iv _ => m - (intOf iv).toNat)
  case atStart => exact ⟨0, a, Nat.zero_le _, rfl, rfl, HK.out.symm, HA.out.1, HA.out.2, HB02.out, HBX2.out, HFA.out⟩
  case round =>
    obtain ⟨j, x, hj, rfl, hcon, hkind, hat, hl, hbl, hbx, hfl⟩ := hrel
    have HX := Lib.hid (And.intro hcon (And.intro hkind (And.intro hat hl)))
    have HR := Lib.hid hbl
    have HBX := Lib.hid hbx
    have HFL2 := Lib.hid hfl
    clear hcon hkind hat hl hbl hbx hfl
    by_cases hlt : j < m
    · obtain ⟨f, hf⟩ : ∃ f, fs[j]? = some f := ⟨fs[j]'(by have := HM.out; omega), by simp⟩
      have hf7 : f < 7 := actF_lt k f (by rw [← HFS.out]; exact List.mem_of_getElem? hf)
      obtain ⟨fb, hfA, hfbl, hfc⟩ := HFL2.out.at hf
      have HRND : Hid (∃ (j' : Nat) (x' : ActM), j' ≤ m ∧ Value.int .i64 ((j : Int) + 1) = .int .i64 j' ∧ x'.con = aPuts act0 (fs.take j') a.con ∧ x'.kind = k ∧ ActAt w w.heap.size x' ∧ ActL x' ∧ Below w.heap.size w (wr.setCell ⟨w.heap.size, f + 1, none⟩ (zeroF f)) ∧ BoxA (wr.setCell ⟨w.heap.size, f + 1, none⟩ (zeroF f)) w.heap.size x' ∧ FieldsAt (wr.setCell ⟨w.heap.size, f + 1, none⟩ (zeroF f)) A fs) := Lib.hid (by
        refine ⟨j + 1, clrM x f, by omega, by rw [Int.natCast_add]; rfl, ?_, (clrM_kind x f).trans HX.out.2.1, HX.out.2.2.1.clr f, HX.out.2.2.2.clr f, HR.out.setCell (p := ⟨w.heap.size, f + 1, none⟩) (Nat.le_refl _) _, HBX.out.clr hf7, fields_set HFL2.out ⟨_, _, _, HBX.out.hb, by decide⟩⟩
        rw [clrM_con, HX.out.1, take_snoc hf, aPuts_snoc])
      have hwz : w.heap.size < wr.heap.size := HBX.out.lt
      rw [hfA] at HRND ⊢
      have zz := HBX.out.free
      have z1 := zz 1
      have z2 := zz 2
      have z3 := zz 3
      have z4 := zz 4
      have z5 := zz 5
      have z6 := zz 6
      have z7 := zz 7
      have y1 := HBX.out.cell (j := 1) rfl
      have y2 := HBX.out.cell (j := 2) rfl
      have y3 := HBX.out.cell (j := 3) rfl
      have y4 := HBX.out.cell (j := 4) rfl
      have y5 := HBX.out.cell (j := 5) rfl
      have y6 := HBX.out.cell (j := 6) rfl
      have y7 := HBX.out.cell (j := 7) rfl
      clear hf hfA zz
      have hcase : f = 0 ∨ f = 1 ∨ f = 2 ∨ f = 3 ∨ f = 4 ∨ f = 5 ∨ f = 6 := by omega
      rcases hcase with rfl | rfl | rfl | rfl | rfl | rfl | rfl
      · clear z2 y2 z3 y3 z4 y4 z5 y5 z6 y6 z7 y7
        go_wp2_with fail
        go_roundw
        case rel => exact HRND.out
        case measure => simp [intOf]; omega
      · clear z1 y1 z3 y3 z4 y4 z5 y5 z6 y6 z7 y7
        go_wp2_with fail
        go_roundw
        case rel => exact HRND.out
        case measure => simp [intOf]; omega
      · clear z1 y1 z2 y2 z4 y4 z5 y5 z6 y6 z7 y7
        go_wp2_with fail
        go_roundw
        case rel => exact HRND.out
        case measure => simp [intOf]; omega
      · clear z1 y1 z2 y2 z3 y3 z5 y5 z6 y6 z7 y7
        go_wp2_with fail
        go_roundw
        case rel => exact HRND.out
        case measure => simp [intOf]; omega
      · clear z1 y1 z2 y2 z3 y3 z4 y4 z6 y6 z7 y7
        go_wp2_with fail
        go_roundw
        case rel => exact HRND.out
        case measure => simp [intOf]; omega
      · clear z1 y1 z2 y2 z3 y3 z4 y4 z5 y5 z7 y7
        go_wp2_with fail
        go_roundw
        case rel => exact HRND.out
        case measure => simp [intOf]; omega
      · clear z1 y1 z2 y2 z3 y3 z4 y4 z5 y5 z6 y6
        go_wp2_with fail
        go_roundw
        case rel => exact HRND.out
        case measure => simp [intOf]; omega
    · obtain rfl : j = m := by omega
      have e : fs.take j = fs := List.take_of_length_le (by have := HM.out; omega)
      have HE : Hid (x.con = aClr fs a.con) := Lib.hid (by rw [HX.out.1, e]; rfl)
      have HEQ := Lib.hid (eqAct_any x (kindM k) wr w.heap.size w.heap.size (HX.out.2.2.1.below HR.out) (kindM_at k) HR.out.size HR.out.size HX.out.2.2.2.ns HX.out.2.2.2.nn HX.out.2.2.2.ng)
      have HIF : Hid (x.con = (kindM k).con ↔ Q) := Lib.hid (by
        rw [HE.out, kindM_con, HFS.out]
        exact ⟨fun h => HOK.out.2 ⟨HNM.out, h⟩, fun h => (HOK.out.1 h).2⟩)
      rw [tb_iff HIF.out] at HEQ
      have y0 := HBX.out.cell (j := 0) rfl
      have y1 := HBX.out.cell (j := 1) rfl
      have y2 := HBX.out.cell (j := 2) rfl
      have y3 := HBX.out.cell (j := 3) rfl
      have y4 := HBX.out.cell (j := 4) rfl
      have y5 := HBX.out.cell (j := 5) rfl
      have y6 := HBX.out.cell (j := 6) rfl
      have y7 := HBX.out.cell (j := 7) rfl
      have hxk := HX.out.2.1
      unfold actV kindM at HEQ
      rw [hxk] at HEQ y0
      clear e hxk
      go_wp2_with fail
      refine HEQ.out.mono ?_
      rintro e w2 ⟨rfl, hb⟩
      go_wp2_with fail
      go_ret
      exact ⟨rfl, HR.out.trans (hb.mono HR.out.size)⟩
end Go.Proofs.YtakdkiggaalimaaGreatDoor
