/-
  trace.validEvent (printed by gentrva.py).
-/
import Derived.Test.YtakdkiggaalimaaGreatDoorTrEv
import Derived.Test.YtakdkiggaalimaaGreatDoorTrVa

namespace Go.Proofs.YtakdkiggaalimaaGreatDoor
open Go.RowKit Go.Maps
open Go.Lib (itoa)

def EvM.zero (k t : Int) : EvM := ⟨k, t, 0, 0, 0, 0, 0, 0, none, 0, [], ord0, sta0, kindM 0, none, 0, []⟩
theorem zeroEv_con (k t : Int) : (EvM.zero k t).con = kindE k t := rfl
theorem zeroEv_at {w : World} {B : Nat} (k t : Int) : EvAt w B (EvM.zero k t) := ⟨Sl.empty, kindM_at 0, Sl.empty⟩
/-- an event in memory without a field. -/
def clrE (a : EvM) : Nat → EvM
  | 0 => { a with who := 0 }
  | 1 => { a with call := 0 }
  | 2 => { a with epoch := 0 }
  | 3 => { a with n := 0 }
  | 4 => { a with act := kindM 0 }
  | 5 => { a with eterm := 0, ekind := 0, eA := none, ec := 0, ebody := [] }
  | 6 => { a with ord := ord0 }
  | _ => { a with sta := sta0 }
theorem clrE_con (a : EvM) (f : Nat) : (clrE a f).con = ePut ev0 a.con f := by
  rcases f with _ | _ | _ | _ | _ | _ | _ | f <;> rfl
theorem clrE_kind (a : EvM) (f : Nat) : (clrE a f).kind = a.kind := by
  rcases f with _ | _ | _ | _ | _ | _ | _ | f <;> rfl
theorem clrE_tick (a : EvM) (f : Nat) : (clrE a f).tick = a.tick := by
  rcases f with _ | _ | _ | _ | _ | _ | _ | f <;> rfl
theorem clrE_act (a : EvM) {f : Nat} (hf : f < 8) (h : f ≠ 4) : (clrE a f).act = a.act := by
  rcases f with _ | _ | _ | _ | _ | _ | _ | f <;> first | rfl | omega
theorem EvAt.clr {w : World} {B : Nat} {a : EvM} (h : EvAt w B a) (f : Nat) : EvAt w B (clrE a f) := by
  rcases f with _ | _ | _ | _ | _ | _ | _ | f
  · exact ⟨h.body, h.act, h.bytes⟩
  · exact ⟨h.body, h.act, h.bytes⟩
  · exact ⟨h.body, h.act, h.bytes⟩
  · exact ⟨h.body, h.act, h.bytes⟩
  · exact ⟨h.body, kindM_at 0, h.bytes⟩
  · exact ⟨Sl.empty, h.act, h.bytes⟩
  · exact ⟨h.body, h.act, h.bytes⟩
  · exact ⟨h.body, h.act, h.bytes⟩
theorem kindM_l (k : Int) : ActL (kindM k) := ⟨by show 0 ≤ _; omega, (fun s hs => by cases hs), by show 0 ≤ _; omega⟩
theorem evl_clr {a : EvM} (h : ActL a.act) (f : Nat) : ActL (clrE a f).act := by
  rcases f with _ | _ | _ | _ | _ | _ | _ | f
  · exact h
  · exact h
  · exact h
  · exact h
  · exact kindM_l 0
  · exact h
  · exact h
  · exact h
/-- stores to cells of a block. -/
def putCells (X : World) (b : Nat) (l : List (Nat × Value)) : World := l.foldl (fun W p => W.setCell ⟨b, p.1, none⟩ p.2) X
theorem putCells_heap {b : Nat} {t : TypeId} : ∀ (l : List (Nat × Value)) {X : World} {cs : Array Value}, X.heap[b]? = some (.cells cs t (0, 0)) → (putCells X b l).heap[b]? = some (.cells (l.foldl (fun c p => c.setIfInBounds p.1 p.2) cs) t (0, 0))
  | [], _, _, h => h
  | p :: r, X, cs, h => putCells_heap r (heap_setCell_same X b p.1 cs t p.2 h)
theorem putCells_other {b g : Nat} (hg : g ≠ b) : ∀ (l : List (Nat × Value)) (X : World), (putCells X b l).heap[g]? = X.heap[g]?
  | [], _ => rfl
  | p :: r, X => (putCells_other hg r _).trans (heap_setCell_other X ⟨b, p.1, none⟩ g p.2 hg)
theorem putCells_below {B b : Nat} (hB : B ≤ b) : ∀ (l : List (Nat × Value)) {w X : World}, Below B w X → Below B w (putCells X b l)
  | [], _, _, h => h
  | p :: r, _, _, h => putCells_below hB r (h.setCell (p := ⟨b, p.1, none⟩) hB _)
def zi : Value := .int .i64 0
def zs : Value := .slice none 0 0
/-- what is stored where a field is cleared. -/
def zeroEF : Nat → List (Nat × Value)
  | 0 => [(2, zi)]
  | 1 => [(3, zi)]
  | 2 => [(4, zi)]
  | 3 => [(5, zi)]
  | 4 => [(19, zi), (20, zi), (21, zi), (22, zi), (23, zi), (24, zi), (25, zs), (26, zs)]
  | 5 => [(6, zi), (7, zi), (8, zs)]
  | 6 => [(9, zi), (10, zi), (11, zi), (12, zi), (13, zi)]
  | _ => [(14, zi), (15, zi), (16, zi), (17, zi), (18, zi)]
theorem BoxE.clr {X : World} {b : Nat} {a : EvM} (h : BoxE X b a) (f : Nat) : BoxE (putCells X b (zeroEF f)) b (clrE a f) := by
  refine ⟨?_⟩
  rw [putCells_heap (zeroEF f) h.hb]
  unfold evCs
  rcases f with _ | _ | _ | _ | _ | _ | _ | f <;> simp only [zeroEF, List.foldl_cons, List.foldl_nil, List.setIfInBounds_toArray, List.set_cons_succ, List.set_cons_zero] <;> rfl
theorem BoxE.free {X : World} {b : Nat} {a : EvM} (h : BoxE X b a) (j : Nat) : X.frozen? ⟨b, j, none⟩ = false := Lib.frozen_of_heap h.hb j
theorem fields_put {X : World} {A : Option Addr} {fs : List Nat} (h : FieldsAt X A fs) {b : Nat} (l : List (Nat × Value)) (hb : ∃ (cs : Array Value) (T : TypeId) (fr : Nat × Nat), X.heap[b]? = some (Obj.cells cs T fr) ∧ T ≠ 3) : FieldsAt (putCells X b l) A fs := fields_heap h fun g cs fr q => by
  refine putCells_other (fun e => ?_) l X
  obtain ⟨cs', T, fr', q2, hne⟩ := hb
  rw [e, q2] at q
  injection q with q
  injection q with _ q _
  exact hne q
theorem wpList_load_row_g {P : Program} {ops : Array Oper} {rest : List Oper} {o : Oper} {a : Act} {w : World} {Q : Exit → Act → World → Prop} (hw : Region.wanted o (yielded ops a.tmps) = true) (ty : TypeId) (x : Operand) (ho : o.op = .load ty x)
    (g : Nat) (hx : a.eval x = .pointer (some ⟨g, 0, none⟩)) (t : TypeId) (cs : Array Value) (fr : Nat × Nat) (d : TypeDesc) (hg : w.heap[g]? = some (.cells cs t fr))
    (hu : P.underlying ty = some d) (hd : (match d with | .struct _ | .array _ _ => true | _ => false) = true) (hi : (P.info? ty).map (·.size) = some cs.size)
    (h : wpList P ops Q rest (a.put o.dst (.agg cs)) w) : wpList P ops Q (o :: rest) a w :=
  BigFrame.wpList_want hw fun _ hK => wp_load_row ty x ho g hx t cs fr d hg hu hd hi (hK _ _ h)
theorem ev_size : (Tryz.prog.info? 35).map (·.size) = some 28 := by kernel_rfl
theorem not_taken {l : List Nat} (hn : l.Nodup) {j f : Nat} (h : l[j]? = some f) : f ∉ l.take j := fun hm => by
  obtain ⟨hj, e⟩ := List.getElem?_eq_some_iff.1 h
  have e2 : l = l.take j ++ f :: l.drop (j + 1) := by
    conv => lhs; rw [← List.take_append_drop j l, List.drop_eq_getElem_cons hj, e]
  rw [e2] at hn
  exact (List.nodup_append.1 hn).2.2 f hm f (by simp) rfl
set_option maxRecDepth 100000 in
set_option maxHeartbeats 16000000 in
theorem vEv_any (a : EvM) (w : World) (hat : EvAt w w.heap.size a) (hl : ActL a.act) : Calls Tryz.prog 30 #[evV a] w fun e w' => e = .returned (.bool (tb (EvOk a.con))) ∧ Below w.heap.size w w' := by
  have HBX1 := Lib.hid (BoxE.new w a)
  have HB1 := Lib.hid (show Below w.heap.size w (w.alloc (.cells (evCs a).toArray 35)) from (Below.refl _ _).alloc (Nat.le_refl _) _)
  have HA := Lib.hid (And.intro hat hl)
  obtain ⟨k, hk⟩ : ∃ k, k = a.kind := ⟨_, rfl⟩
  obtain ⟨t, ht⟩ : ∃ t, t = a.tick := ⟨_, rfl⟩
  have HK := Lib.hid (And.intro hk ht)
  obtain ⟨W1, hW1⟩ : ∃ W1, W1 = w.alloc (.cells (evCs a).toArray 35) := ⟨_, rfl⟩
  rw [← hW1] at HBX1 HB1
  have c0 := HBX1.out.cell (j := 0) rfl
  rw [← hk] at c0
  have HFL := Lib.hid (eFields_any W1 k)
  have HOK : Hid (EvOk a.con ↔ evN k ≠ [] ∧ (0 ≤ t ∧ t ≤ 1099511627776) ∧ (4 ∈ evF k → ActOk a.act.con) ∧ eClr (evF k) a.con = kindE k t) := Lib.hid (by rw [hk, ht]; exact Iff.rfl)
  obtain ⟨Q, hQ⟩ : ∃ Q : Prop, Q = EvOk a.con := ⟨_, rfl⟩
  rw [← hQ] at HOK ⊢
  obtain ⟨C, hC⟩ : ∃ C, C = (evCs a).toArray := ⟨_, rfl⟩
  have hVc : evV a = .agg C := by rw [hC]; rfl
  have hC0 : C[0]? = some (.int .i64 k) := by rw [hC, hk]; rfl
  rw [hVc]
  rw [← hC] at hW1
  clear hat hl hk hQ ht hC hVc
  go_enter Tryz.func30, Tryz.ntmps30
  go_wp2_with fail
  rw [← hW1]
  clear hW1
  refine HFL.out.mono ?_
  rintro e W2 ⟨A, rfl, hfa, hw2⟩
  have HFA := Lib.hid hfa
  have HB2 : Hid (Below W1.heap.size W1 W2) := Lib.hid (by
    rcases hw2 with rfl | rfl
    · exact Below.refl _ _
    · exact (Below.refl _ _).alloc (Nat.le_refl _) _)
  have HB02 := Lib.hid (show Below w.heap.size w W2 from HB1.out.trans (HB2.out.mono HB1.out.size))
  have HBX2 := Lib.hid (HBX1.out.next HB2.out)
  have c1 := HBX2.out.cell (j := 1) rfl
  rw [← HK.out.2] at c1
  clear hfa hw2 c0
  by_cases hname : evN k = []
  · have e1 := emp_yes hname
    have HN : Hid (¬ Q) := Lib.hid (fun h => (HOK.out.1 h).1 hname)
    clear hname
    go_wp2_with fail
    go_ret
    exact ⟨ret_no HN.out, HB02.out⟩
  have e1 := emp_no hname
  by_cases ht0 : t < 0
  · have HN : Hid (¬ Q) := Lib.hid (fun h => by have := (HOK.out.1 h).2.1; omega)
    clear hname
    go_wp2_with fail
    go_ret
    exact ⟨ret_no HN.out, HB02.out⟩
  by_cases ht1 : t > 1099511627776
  · have HN : Hid (¬ Q) := Lib.hid (fun h => by have := (HOK.out.1 h).2.1; omega)
    clear hname
    go_wp2_with fail
    go_ret
    exact ⟨ret_no HN.out, HB02.out⟩
  have HNM := Lib.hid (And.intro hname (show 0 ≤ t ∧ t ≤ 1099511627776 by omega))
  obtain ⟨fs, hfs⟩ : ∃ fs, fs = evF k := ⟨_, rfl⟩
  have HFS := Lib.hid hfs
  rw [← hfs] at HFA ⊢
  obtain ⟨m, hm⟩ : ∃ m, m = fs.length := ⟨_, rfl⟩
  have HM := Lib.hid hm
  have hm3 : m ≤ 3 := by rw [hm, hfs]; exact evF_len k
  have HND : Hid fs.Nodup := Lib.hid (by rw [hfs]; exact evF_nodup k)
  rw [← hm]
  clear hfs hm hname
  go_wp2_with fail
  clear c1 ht0 ht1
  go_loopw [27] (fun iv X => ∃ (j : Nat) (x : EvM), j ≤ m ∧ iv = .int .i64 j ∧ (x.con = ePuts ev0 (fs.take j) a.con ∧ x.kind = k ∧ x.tick = t ∧ (4 ∉ fs.take j → x.act = a.act) ∧ (4 ∈ fs.take j → ActOk a.act.con) ∧ EvAt w w.heap.size x ∧ ActL x.act) ∧ Below w.heap.size w X ∧ BoxE X w.heap.size x ∧ FieldsAt X A fs) (fun iv _ => m - (intOf iv).toNat)
  case atStart => exact ⟨0, a, Nat.zero_le _, rfl, ⟨rfl, HK.out.1.symm, HK.out.2.symm, fun _ => rfl, (fun h => by cases h), HA.out.1, HA.out.2⟩, HB02.out, HBX2.out, HFA.out⟩
  case round =>
    obtain ⟨j, x, hj, rfl, hx, hbl, hbx, hfl⟩ := hrel
    have HX := Lib.hid hx
    have HR := Lib.hid hbl
    have HBX := Lib.hid hbx
    have HFL2 := Lib.hid hfl
    clear hx hbl hbx hfl
    by_cases hlt : j < m
    · obtain ⟨f, hf⟩ : ∃ f, fs[j]? = some f := ⟨fs[j]'(by have := HM.out; omega), by simp⟩
      have hf7 : f < 8 := evF_lt k f (by rw [← HFS.out]; exact List.mem_of_getElem? hf)
      obtain ⟨fb, hfA, hfbl, hfc⟩ := HFL2.out.at hf
      have hnt := not_taken HND.out hf
      have HRND : Hid (∀ X, Below wr.heap.size wr X → (4 = f → ActOk a.act.con) → ∃ (j' : Nat) (x' : EvM), j' ≤ m ∧ Value.int .i64 ((j : Int) + 1) = .int .i64 j' ∧ (x'.con = ePuts ev0 (fs.take j') a.con ∧ x'.kind = k ∧ x'.tick = t ∧ (4 ∉ fs.take j' → x'.act = a.act) ∧ (4 ∈ fs.take j' → ActOk a.act.con) ∧ EvAt w w.heap.size x' ∧ ActL x'.act) ∧ Below w.heap.size w (putCells X w.heap.size (zeroEF f)) ∧ BoxE (putCells X w.heap.size (zeroEF f)) w.heap.size x' ∧ FieldsAt (putCells X w.heap.size (zeroEF f)) A fs) := Lib.hid (fun X hX h4 => by
        refine ⟨j + 1, clrE x f, by omega, by rw [Int.natCast_add]; rfl, ⟨?_, (clrE_kind x f).trans HX.out.2.1, (clrE_tick x f).trans HX.out.2.2.1, fun q => ?_, fun q => ?_, HX.out.2.2.2.2.2.1.clr f, evl_clr HX.out.2.2.2.2.2.2 f⟩, putCells_below (Nat.le_refl _) _ (HR.out.trans (hX.mono HR.out.size)), (HBX.out.next hX).clr f, fields_put (HFL2.out.next hX) _ ⟨_, _, _, (HBX.out.next hX).hb, by decide⟩⟩
        · rw [clrE_con, HX.out.1, take_snoc hf, ePuts_snoc]
        · rw [take_snoc hf] at q
          rw [clrE_act x hf7 (fun e => q (by rw [e]; simp))]
          exact HX.out.2.2.2.1 (fun e => q (by simp [e]))
        · rw [take_snoc hf] at q
          rcases List.mem_append.1 q with q | q
          · exact HX.out.2.2.2.2.1 q
          · exact h4 (List.mem_singleton.1 q))
      have HACT : Hid (f = 4 → x.act = a.act) := Lib.hid (fun e => HX.out.2.2.2.1 (e ▸ hnt))
      have hwz : w.heap.size < wr.heap.size := HBX.out.lt
      rw [hfA] at HRND ⊢
      have HMEM : Hid (f ∈ fs) := Lib.hid (List.mem_of_getElem? hf)
      clear hf hfA hnt
      have hcase : f = 0 ∨ f = 1 ∨ f = 2 ∨ f = 3 ∨ f = 4 ∨ f = 5 ∨ f = 6 ∨ f = 7 := by omega
      rcases hcase with rfl | rfl | rfl | rfl | rfl | rfl | rfl | rfl
      · have z2 := HBX.out.free 2
        have y2 := HBX.out.cell (j := 2) rfl
        go_wp2_with fail
        go_roundw
        case rel => exact HRND.out _ (Below.refl _ _) (fun q => by cases q)
        case measure => simp [intOf]; omega
      · have z3 := HBX.out.free 3
        have y3 := HBX.out.cell (j := 3) rfl
        go_wp2_with fail
        go_roundw
        case rel => exact HRND.out _ (Below.refl _ _) (fun q => by cases q)
        case measure => simp [intOf]; omega
      · have z4 := HBX.out.free 4
        have y4 := HBX.out.cell (j := 4) rfl
        go_wp2_with fail
        go_roundw
        case rel => exact HRND.out _ (Below.refl _ _) (fun q => by cases q)
        case measure => simp [intOf]; omega
      · have z5 := HBX.out.free 5
        have y5 := HBX.out.cell (j := 5) rfl
        go_wp2_with fail
        go_roundw
        case rel => exact HRND.out _ (Below.refl _ _) (fun q => by cases q)
        case measure => simp [intOf]; omega
      · have z19 := HBX.out.free 19
        have y19 := HBX.out.cell (j := 19) rfl
        have z20 := HBX.out.free 20
        have y20 := HBX.out.cell (j := 20) rfl
        have z21 := HBX.out.free 21
        have y21 := HBX.out.cell (j := 21) rfl
        have z22 := HBX.out.free 22
        have y22 := HBX.out.cell (j := 22) rfl
        have z23 := HBX.out.free 23
        have y23 := HBX.out.cell (j := 23) rfl
        have z24 := HBX.out.free 24
        have y24 := HBX.out.cell (j := 24) rfl
        have z25 := HBX.out.free 25
        have y25 := HBX.out.cell (j := 25) rfl
        have z26 := HBX.out.free 26
        have y26 := HBX.out.cell (j := 26) rfl
        have HVA := Lib.hid (vAct_any x.act wr (HX.out.2.2.2.2.2.1.act.below HR.out |>.more HR.out.size) HX.out.2.2.2.2.2.2)
        rw [show x.act.con = a.act.con by rw [HACT.out rfl]] at HVA
        unfold actV at HVA
        by_cases hok : ActOk a.act.con
        · rw [tb_true hok] at HVA
          have HO := Lib.hid hok
          clear hok z19 z20 z21 z22 z23 z24 z25 z26
          go_wp2_with fail
          refine HVA.out.mono ?_
          rintro e w2 ⟨rfl, hb⟩
          have HB := Lib.hid hb
          have hwz2 : w.heap.size < w2.heap.size := (HBX.out.next hb).lt
          have zz19 := (HBX.out.next hb).free 19
          have yy19 := (HBX.out.next hb).cell (j := 19) rfl
          have zz20 := (HBX.out.next hb).free 20
          have yy20 := (HBX.out.next hb).cell (j := 20) rfl
          have zz21 := (HBX.out.next hb).free 21
          have yy21 := (HBX.out.next hb).cell (j := 21) rfl
          have zz22 := (HBX.out.next hb).free 22
          have yy22 := (HBX.out.next hb).cell (j := 22) rfl
          have zz23 := (HBX.out.next hb).free 23
          have yy23 := (HBX.out.next hb).cell (j := 23) rfl
          have zz24 := (HBX.out.next hb).free 24
          have yy24 := (HBX.out.next hb).cell (j := 24) rfl
          have zz25 := (HBX.out.next hb).free 25
          have yy25 := (HBX.out.next hb).cell (j := 25) rfl
          have zz26 := (HBX.out.next hb).free 26
          have yy26 := (HBX.out.next hb).cell (j := 26) rfl
          clear hb hwz y19 y20 y21 y22 y23 y24 y25 y26
          go_wp2_with fail
          go_roundw
          case rel => exact HRND.out _ HB.out (fun _ => HO.out)
          case measure => simp [intOf]; omega
        · rw [tb_false hok] at HVA
          have HN : Hid (¬ Q) := Lib.hid (fun h => hok ((HOK.out.1 h).2.2.1 (by rw [← HFS.out]; exact HMEM.out)))
          clear hok z19 z20 z21 z22 z23 z24 z25 z26
          go_wp2_with fail
          refine HVA.out.mono ?_
          rintro e w2 ⟨rfl, hb⟩
          go_wp2_with fail
          go_ret
          exact ⟨ret_no HN.out, HR.out.trans (hb.mono HR.out.size)⟩
      · have z6 := HBX.out.free 6
        have y6 := HBX.out.cell (j := 6) rfl
        have z7 := HBX.out.free 7
        have y7 := HBX.out.cell (j := 7) rfl
        have z8 := HBX.out.free 8
        have y8 := HBX.out.cell (j := 8) rfl
        go_wp2_with fail
        go_roundw
        case rel => exact HRND.out _ (Below.refl _ _) (fun q => by cases q)
        case measure => simp [intOf]; omega
      · have z9 := HBX.out.free 9
        have y9 := HBX.out.cell (j := 9) rfl
        have z10 := HBX.out.free 10
        have y10 := HBX.out.cell (j := 10) rfl
        have z11 := HBX.out.free 11
        have y11 := HBX.out.cell (j := 11) rfl
        have z12 := HBX.out.free 12
        have y12 := HBX.out.cell (j := 12) rfl
        have z13 := HBX.out.free 13
        have y13 := HBX.out.cell (j := 13) rfl
        go_wp2_with fail
        go_roundw
        case rel => exact HRND.out _ (Below.refl _ _) (fun q => by cases q)
        case measure => simp [intOf]; omega
      · have z14 := HBX.out.free 14
        have y14 := HBX.out.cell (j := 14) rfl
        have z15 := HBX.out.free 15
        have y15 := HBX.out.cell (j := 15) rfl
        have z16 := HBX.out.free 16
        have y16 := HBX.out.cell (j := 16) rfl
        have z17 := HBX.out.free 17
        have y17 := HBX.out.cell (j := 17) rfl
        have z18 := HBX.out.free 18
        have y18 := HBX.out.cell (j := 18) rfl
        go_wp2_with fail
        go_roundw
        case rel => exact HRND.out _ (Below.refl _ _) (fun q => by cases q)
        case measure => simp [intOf]; omega
    · obtain rfl : j = m := by omega
      have e : fs.take j = fs := List.take_of_length_le (by have := HM.out; omega)
      have HE : Hid (x.con = eClr fs a.con) := Lib.hid (by rw [HX.out.1, e]; rfl)
      have HEQ := Lib.hid (eqEv_any x (EvM.zero k t) wr w.heap.size w.heap.size (HX.out.2.2.2.2.2.1.below HR.out) (zeroEv_at k t) HR.out.size HR.out.size HX.out.2.2.2.2.2.2.ns HX.out.2.2.2.2.2.2.nn HX.out.2.2.2.2.2.2.ng)
      have HIF : Hid (x.con = (EvM.zero k t).con ↔ Q) := Lib.hid (by
        have h4 := HX.out.2.2.2.2.1
        rw [e, HFS.out] at h4
        rw [HE.out, zeroEv_con, HFS.out]
        exact ⟨fun h => HOK.out.2 ⟨HNM.out.1, HNM.out.2, h4, h⟩, fun h => (HOK.out.1 h).2.2.2⟩)
      rw [tb_iff HIF.out] at HEQ
      have hxk := HX.out.2.1
      have hxt := HX.out.2.2.1
      have y0 := HBX.out.cell (j := 0) rfl
      have y1 := HBX.out.cell (j := 1) rfl
      rw [hxk] at y0
      rw [hxt] at y1
      obtain ⟨D, hD⟩ : ∃ D, D = (evCs x).toArray := ⟨_, rfl⟩
      have hrow := HBX.out.hb
      have hsz : (Tryz.prog.info? 35).map (·.size) = some D.size := by rw [hD]; exact ev_size
      rw [show evV x = .agg D by rw [hD]; rfl] at HEQ
      rw [← hD] at hrow
      unfold evV EvM.zero kindM ord0 sta0 at HEQ
      dsimp only [List.length_nil] at HEQ
      clear e hxk hxt hD
      go_wp2_with (refine wpList_load_row_g (by rfl) 35 (.tmp 1) rfl w.heap.size rfl 35 D (0, 0) _ hrow Tryz.underlying35 rfl hsz ?_)
      refine HEQ.out.mono ?_
      rintro e w2 ⟨rfl, hb⟩
      go_wp2_with fail
      go_ret
      exact ⟨rfl, HR.out.trans (hb.mono HR.out.size)⟩
end Go.Proofs.YtakdkiggaalimaaGreatDoor
