/-
  slices.insertionSortCmpFunc, stableCmpFunc and SortStableFunc at incidents (at most twenty).
  dispatchcost.openOnes: the open incidents in the order in which they are served.
-/
import Derived.Test.YtimijjhdgihobaaGreatDoorMqh
import Derived.Test.YtimijjhdgihobaaGreatDoorMqj
import Derived.IntWalk
namespace Go.Proofs.YtimijjhdgihobaaGreatDoor
section
open Go.RowKit Go.Maps

def RetSort (w : World) (base g n c : Nat) (L : List IncT) (e : Ending) (w' : World) : Prop := e = .returned (.tuple #[]) ∧ OwnInc w' base 46 (.slice (some ⟨g, 0, none⟩) n c) L ∧ Only (fun j => j = g) w w'

theorem OwnR.read {α : Type} {cs : α → List Value} {s : Nat} (hs : ∀ a, (cs a).length = s) {w : World} {base : Nat} {e : TypeId} {g n c : Nat} {xs : List α} (h : OwnR cs s w base e (.slice (some ⟨g, 0, none⟩) n c) xs) {k : Nat} {z : α} (hz : xs[k]? = some z) {j : Nat} {u : Value} (hj : (cs z)[j]? = some u) :
    w.cell? ⟨g, k * s + j, none⟩ = some u ∧ w.frozen? ⟨g, k * s + j, none⟩ = false := by
  have hcap := h.caps
  obtain rfl := hcap.1
  have hkl := (List.getElem?_eq_some_iff.1 hz).1
  have hjl := (List.getElem?_eq_some_iff.1 hj).1
  rw [hs] at hjl
  refine ⟨?_, World.ownsRow.frozenAt h _⟩
  rw [World.ownsRow.cellAt h _ (by
    have : (k + 1) * s ≤ xs.length * s := Nat.mul_le_mul_right s hkl
    rw [Nat.add_mul] at this
    omega)]
  exact flat_at hs hz hj
theorem OwnR.one {α : Type} {cs : α → List Value} {s : Nat} {w : World} {base : Nat} {e : TypeId} {g n c : Nat} {xs : List α} (h : OwnR cs s w base e (.slice (some ⟨g, 0, none⟩) n c) xs) : g < w.heap.size ∧ base ≤ g := ⟨h.lt_size g rfl, h.ge_base g rfl⟩
theorem own_inc {w : World} {base g n c : Nat} {xs : List IncT} (h : OwnInc w base 46 (.slice (some ⟨g, 0, none⟩) n c) xs) {k : Nat} {x : IncT} (hz : xs[k]? = some x) :
    (w.cell? ⟨g, k * 10, none⟩ = some (.int .i64 x.id) ∧ w.cell? ⟨g, k * 10 + 1, none⟩ = some (.int .i64 x.urg) ∧ w.cell? ⟨g, k * 10 + 2, none⟩ = some (.string x.code) ∧ w.cell? ⟨g, k * 10 + 3, none⟩ = some (.slice x.nA x.nodes.length x.nc) ∧ w.cell? ⟨g, k * 10 + 4, none⟩ = some (.int .i64 x.dist) ∧
    w.cell? ⟨g, k * 10 + 5, none⟩ = some (.int .i64 x.since) ∧ w.cell? ⟨g, k * 10 + 6, none⟩ = some (.slice x.cA x.cl x.cc) ∧ w.cell? ⟨g, k * 10 + 7, none⟩ = some (.slice x.uA x.ul x.uc) ∧ w.cell? ⟨g, k * 10 + 8, none⟩ = some (.int .i64 x.merged) ∧ w.cell? ⟨g, k * 10 + 9, none⟩ = some (.bool x.closed)) ∧
    (w.frozen? ⟨g, k * 10, none⟩ = false ∧ w.frozen? ⟨g, k * 10 + 1, none⟩ = false ∧ w.frozen? ⟨g, k * 10 + 2, none⟩ = false ∧ w.frozen? ⟨g, k * 10 + 3, none⟩ = false ∧ w.frozen? ⟨g, k * 10 + 4, none⟩ = false ∧ w.frozen? ⟨g, k * 10 + 5, none⟩ = false ∧ w.frozen? ⟨g, k * 10 + 6, none⟩ = false ∧ w.frozen? ⟨g, k * 10 + 7, none⟩ = false ∧ w.frozen? ⟨g, k * 10 + 8, none⟩ = false ∧ w.frozen? ⟨g, k * 10 + 9, none⟩ = false) := by
  have r := fun (j : Nat) (u : Value) (hj : (cellsI x)[j]? = some u) => OwnR.read cellsI_len h hz hj
  exact ⟨⟨(r 0 _ rfl).1, (r 1 _ rfl).1, (r 2 _ rfl).1, (r 3 _ rfl).1, (r 4 _ rfl).1, (r 5 _ rfl).1, (r 6 _ rfl).1, (r 7 _ rfl).1, (r 8 _ rfl).1, (r 9 _ rfl).1⟩, ⟨(r 0 _ rfl).2, (r 1 _ rfl).2, (r 2 _ rfl).2, (r 3 _ rfl).2, (r 4 _ rfl).2, (r 5 _ rfl).2, (r 6 _ rfl).2, (r 7 _ rfl).2, (r 8 _ rfl).2, (r 9 _ rfl).2⟩⟩

def setsFrom (l : List Value) : Nat → List Value → List Value
  | _, [] => l
  | o, v :: vs => setsFrom (l.set o v) (o + 1) vs
theorem setsFrom_eq : ∀ (vs l : List Value) (o : Nat), o + vs.length ≤ l.length → setsFrom l o vs = l.take o ++ vs ++ l.drop (o + vs.length)
  | [], l, o, _ => by simp [setsFrom]
  | v :: vs, l, o, h => by
    simp only [List.length_cons] at h
    rw [setsFrom, setsFrom_eq vs _ _ (by rw [List.length_set]; omega)]
    have hl : o < l.length := by omega
    rw [List.take_set, List.take_succ_eq_append_getElem hl, List.set_append_right _ _ (by simp; omega), List.drop_set_of_lt (by omega)]
    have h0 : o - (List.take o l).length = 0 := by simp; omega
    rw [h0, List.length_cons]
    have h1 : o + 1 + vs.length = o + (vs.length + 1) := by omega
    rw [h1]
    simp
theorem flat_set {α : Type} {cs : α → List Value} {s : Nat} (hs : ∀ a, (cs a).length = s) : ∀ {xs : List α} {k : Nat} (z : α), k < xs.length → (xs.set k z).flatMap cs = (xs.flatMap cs).take (k * s) ++ cs z ++ (xs.flatMap cs).drop (k * s + s)
  | [], k, z, h => by simp at h
  | x :: xs, 0, z, _ => by
    rw [List.set_cons_zero, List.flatMap_cons, List.flatMap_cons, Nat.zero_mul, List.take_zero, Nat.zero_add, List.drop_append_of_le_length (by rw [hs]; omega), List.drop_eq_nil_of_le (by rw [hs]; omega)]
    simp
  | x :: xs, k + 1, z, h => by
    have ih := flat_set hs (xs := xs) (k := k) z (by simpa using h)
    rw [List.set_cons_succ, List.flatMap_cons, List.flatMap_cons, ih, List.take_append, List.drop_append, hs]
    have e1 : (k + 1) * s - s = k * s := by rw [Nat.add_mul]; omega
    have e2 : (k + 1) * s + s - s = k * s + s := by rw [Nat.add_mul]; omega
    have e3 : List.drop ((k + 1) * s + s) (cs x) = [] := List.drop_eq_nil_of_le (by rw [hs, Nat.add_mul]; omega)
    rw [e1, e2, e3, List.take_of_length_le (l := cs x) (by rw [hs, Nat.add_mul]; omega)]
    simp
def putI (w : World) (g k : Nat) (x : IncT) : World :=
  (((((((((w.setCell ⟨g, k * 10, none⟩ (.int .i64 x.id)).setCell ⟨g, k * 10 + 1, none⟩ (.int .i64 x.urg)).setCell ⟨g, k * 10 + 2, none⟩ (.string x.code)).setCell ⟨g, k * 10 + 3, none⟩ (.slice x.nA x.nodes.length x.nc)).setCell ⟨g, k * 10 + 4, none⟩ (.int .i64 x.dist)).setCell ⟨g, k * 10 + 5, none⟩ (.int .i64 x.since)).setCell ⟨g, k * 10 + 6, none⟩ (.slice x.cA x.cl x.cc)).setCell ⟨g, k * 10 + 7, none⟩ (.slice x.uA x.ul x.uc)).setCell ⟨g, k * 10 + 8, none⟩ (.int .i64 x.merged)).setCell ⟨g, k * 10 + 9, none⟩ (.bool x.closed)
theorem own_put {w : World} {base g n c : Nat} {xs : List IncT} (h : OwnInc w base 46 (.slice (some ⟨g, 0, none⟩) n c) xs) {k : Nat} (x : IncT) (hk : k < xs.length) : OwnInc (putI w g k x) base 46 (.slice (some ⟨g, 0, none⟩) n c) (xs.set k x) := by
  have hn := h.caps.1
  subst hn
  have h' : w.ownsRow base 46 10 (.slice (some ⟨g, 0, none⟩) xs.length c) xs.length (xs.flatMap cellsI) := h
  have h1 := ((((((((((h'.stored (k * 10) (.int .i64 x.id)).1.stored (k * 10 + 1) (.int .i64 x.urg)).1.stored (k * 10 + 2) (.string x.code)).1.stored (k * 10 + 3) (.slice x.nA x.nodes.length x.nc)).1.stored (k * 10 + 4) (.int .i64 x.dist)).1.stored (k * 10 + 5) (.int .i64 x.since)).1.stored (k * 10 + 6) (.slice x.cA x.cl x.cc)).1.stored (k * 10 + 7) (.slice x.uA x.ul x.uc)).1.stored (k * 10 + 8) (.int .i64 x.merged)).1.stored (k * 10 + 9) (.bool x.closed)).1
  have e : setsFrom (xs.flatMap cellsI) (k * 10) (cellsI x) = (xs.set k x).flatMap cellsI := by
    have hfl := flat_len cellsI_len xs
    rw [setsFrom_eq _ _ _ (by rw [cellsI_len, hfl]; omega), flat_set cellsI_len x hk, cellsI_len]
  unfold OwnInc OwnR
  rw [← e, List.length_set]
  exact h1
theorem only_put {S : Nat → Prop} {w w1 : World} (h : Only S w w1) {g : Nat} (hg : S g) (k : Nat) (x : IncT) : Only S w (putI w1 g k x) :=
  (((((((((h.setCell (fun _ => hg) _).setCell (fun _ => hg) _).setCell (fun _ => hg) _).setCell (fun _ => hg) _).setCell (fun _ => hg) _).setCell (fun _ => hg) _).setCell (fun _ => hg) _).setCell (fun _ => hg) _).setCell (fun _ => hg) _).setCell (fun _ => hg) _
theorem swap_list {P R : List IncT} {m : Nat} {x y : IncT} (h : P[m]? = some y) : ((P.take (m + 1) ++ x :: P.drop (m + 1) ++ R).set (m + 1) y).set m x = P.take m ++ x :: P.drop m ++ R := by
  have hl := (List.getElem?_eq_some_iff.1 h).1
  have hg := (List.getElem?_eq_some_iff.1 h).2
  rw [List.take_succ_eq_append_getElem hl, hg, List.drop_eq_getElem_cons hl, hg]
  have e : P.take m ++ [y] ++ x :: P.drop (m + 1) ++ R = P.take m ++ (y :: x :: (P.drop (m + 1) ++ R)) := by simp
  have hm : (P.take m).length = m := by simp; omega
  rw [e, List.set_append_right _ _ (by omega), List.set_append_right _ _ (by omega), hm]
  have h1 : m + 1 - m = 1 := by omega
  have h0 : m - m = 0 := by omega
  rw [h1, h0]
  simp

set_option maxRecDepth 100000 in
set_option maxHeartbeats 4000000 in
theorem insertion_any (g n c base : Nat) (xs : List IncT) (w : World) (hown : OwnInc w base 46 (.slice (some ⟨g, 0, none⟩) n c) xs) (hn : n ≤ 65536) (hn1 : 1 ≤ n) :
    Calls Tryz.prog 119 #[.slice (some ⟨g, 0, none⟩) n c, .int .i64 0, .int .i64 n, .func (Fn.func 83) #[] #[]] w (RetSort w base g n c (sortK xs)) := by
  obtain ⟨hnx, _⟩ := hown.caps
  obtain ⟨hgz, hgb⟩ := hown.one
  have HNX := Lib.hid hnx
  have HOWN := Lib.hid hown
  clear hown hnx
  go_enter Tryz.func119, Tryz.ntmps119
  go_wp2_with fail
  go_loopw [8] (fun iv wr => ∃ i : Nat, 1 ≤ i ∧ i ≤ n ∧ iv = .int .i64 i ∧ OwnInc wr base 46 (.slice (some ⟨g, 0, none⟩) n c) (sortK (xs.take i) ++ xs.drop i) ∧ Only (fun j => j = g) w wr) (fun i _ => n - (intOf i).toNat)
  case atStart =>
    refine ⟨1, Nat.le_refl _, hn1, rfl, ?_, Only.refl⟩
    have : sortK (xs.take 1) ++ xs.drop 1 = xs := by
      cases xs with
      | nil => rfl
      | cons x xs => rfl
    rw [this]
    exact HOWN.out
  case round =>
    obtain ⟨i, hi1, hi, rfl, hown, honly⟩ := hrel
    have HO := Lib.hid hown
    have HON := Lib.hid honly
    clear hown honly
    by_cases hlt : i < n
    · obtain ⟨x, hx⟩ : ∃ x, xs[i]? = some x := ⟨xs[i]'(by rw [← HNX.out]; exact hlt), by simp⟩
      obtain ⟨P, hP⟩ : ∃ P, P = sortK (xs.take i) := ⟨_, rfl⟩
      have hPl : P.length = i := by rw [hP, sortK_len, List.length_take, ← HNX.out]; omega
      have HPL := Lib.hid hPl
      have HSP : Hid (SortedI P) := Lib.hid (by rw [hP]; exact sortK_sorted _)
      have HNEXT : Hid (sortK (xs.take (i + 1)) = insL P x) := Lib.hid (by rw [take_snoc' hx, sortK_snoc, hP])
      have HDROP : Hid (xs.drop i = x :: xs.drop (i + 1)) := Lib.hid (by
        have hl := (List.getElem?_eq_some_iff.1 hx).1
        rw [List.drop_eq_getElem_cons hl, (List.getElem?_eq_some_iff.1 hx).2])
      rw [← hP, HDROP.out] at HO
      clear hx hP hPl
      go_wp2_with fail
      obtain ⟨w1, rfl⟩ : ∃ w1 : World, w1 = wr := ⟨_, rfl⟩
      go_loopw [9] (fun jv wr => ∃ j : Nat, j ≤ i ∧ jv = .int .i64 j ∧ OwnInc wr base 46 (.slice (some ⟨g, 0, none⟩) n c) ((P.take j ++ x :: P.drop j) ++ xs.drop (i + 1)) ∧ (∀ y ∈ P.drop j, ltI x y) ∧ Only (fun j => j = g) w wr) (fun j _ => (intOf j).toNat)
      case atStart =>
        refine ⟨i, Nat.le_refl _, rfl, ?_, ?_, HON.out⟩
        · rw [List.take_of_length_le (by rw [HPL.out]; exact Nat.le_refl _), List.drop_eq_nil_of_le (by rw [HPL.out]; exact Nat.le_refl _)]
          simpa using HO.out
        · rw [List.drop_eq_nil_of_le (by rw [HPL.out]; exact Nat.le_refl _)]
          simp
      case round =>
        clear HO HON
        obtain ⟨j, hj, rfl, hown, hall, honly⟩ := hrel
        have HO := Lib.hid hown
        have HON := Lib.hid honly
        have HALL := Lib.hid hall
        clear hall honly
        cases j with
        | zero =>
          clear hown
          have d0 : decide ((0 : Int) < ((0 : Nat) : Int)) = false := by simp
          go_wp2_with fail
          go_quiet (fail)
          go_wp2_with fail
          go_roundw
          case rel =>
            refine ⟨i + 1, by omega, by omega, by go_num, ?_, HON.out.drewN _⟩
            rw [HNEXT.out, ← insL_at (j := 0) HSP.out (by omega) HALL.out (fun y _ h => by omega)]
            exact HO.out.drewN _
          case measure => simp [intOf]; omega
        | succ m =>
          obtain ⟨y, hy⟩ : ∃ y, P[m]? = some y := ⟨P[m]'(by rw [HPL.out]; omega), by simp⟩
          have hLm : ((P.take (m + 1) ++ x :: P.drop (m + 1)) ++ xs.drop (i + 1))[m]? = some y := by
            rw [List.append_assoc, List.getElem?_append_left (by rw [List.length_take, HPL.out]; omega), List.getElem?_take, if_pos (by omega)]
            exact hy
          have hLx : ((P.take (m + 1) ++ x :: P.drop (m + 1)) ++ xs.drop (i + 1))[m + 1]? = some x := by
            rw [List.append_assoc, List.getElem?_append_right (by rw [List.length_take, HPL.out]; omega), List.length_take, HPL.out]
            have : m + 1 - min (m + 1) i = 0 := by omega
            rw [this]
            rfl
          have HCELLS : Hid (∀ W, Below wr.heap.size wr W → (W.cell? ⟨g, m * 10, none⟩ = some (.int .i64 y.id) ∧ W.cell? ⟨g, m * 10 + 1, none⟩ = some (.int .i64 y.urg) ∧ W.cell? ⟨g, m * 10 + 2, none⟩ = some (.string y.code) ∧ W.cell? ⟨g, m * 10 + 3, none⟩ = some (.slice y.nA y.nodes.length y.nc) ∧ W.cell? ⟨g, m * 10 + 4, none⟩ = some (.int .i64 y.dist) ∧ W.cell? ⟨g, m * 10 + 5, none⟩ = some (.int .i64 y.since) ∧ W.cell? ⟨g, m * 10 + 6, none⟩ = some (.slice y.cA y.cl y.cc) ∧ W.cell? ⟨g, m * 10 + 7, none⟩ = some (.slice y.uA y.ul y.uc) ∧ W.cell? ⟨g, m * 10 + 8, none⟩ = some (.int .i64 y.merged) ∧ W.cell? ⟨g, m * 10 + 9, none⟩ = some (.bool y.closed)) ∧
              (W.cell? ⟨g, (m + 1) * 10, none⟩ = some (.int .i64 x.id) ∧ W.cell? ⟨g, (m + 1) * 10 + 1, none⟩ = some (.int .i64 x.urg) ∧ W.cell? ⟨g, (m + 1) * 10 + 2, none⟩ = some (.string x.code) ∧ W.cell? ⟨g, (m + 1) * 10 + 3, none⟩ = some (.slice x.nA x.nodes.length x.nc) ∧ W.cell? ⟨g, (m + 1) * 10 + 4, none⟩ = some (.int .i64 x.dist) ∧ W.cell? ⟨g, (m + 1) * 10 + 5, none⟩ = some (.int .i64 x.since) ∧ W.cell? ⟨g, (m + 1) * 10 + 6, none⟩ = some (.slice x.cA x.cl x.cc) ∧ W.cell? ⟨g, (m + 1) * 10 + 7, none⟩ = some (.slice x.uA x.ul x.uc) ∧ W.cell? ⟨g, (m + 1) * 10 + 8, none⟩ = some (.int .i64 x.merged) ∧ W.cell? ⟨g, (m + 1) * 10 + 9, none⟩ = some (.bool x.closed))) := Lib.hid (fun W hb => by
            obtain ⟨hyc, _⟩ := own_inc (HO.out.kept_new hb) hLm
            obtain ⟨hxc, _⟩ := own_inc (HO.out.kept_new hb) hLx
            exact ⟨hyc, hxc⟩)
          have HLM := Lib.hid hLm
          have HLX := Lib.hid hLx
          have HY := Lib.hid hy
          clear hown hLm hLx hy
          have d0 : decide ((0 : Int) < ((m + 1 : Nat) : Int)) = true := by simp
          have hwm : IntKind.i64.wrap (((m + 1 : Nat) : Int) - 1) = (m : Int) := by rw [show (((m + 1 : Nat) : Int) - 1) = (m : Int) from by omega]; exact IntWalk.i64_in _ (by omega)
          have hwm' : IntKind.i64.wrap ((m : Int) + 1 - 1) = (m : Int) := by rw [show ((m : Int) + 1 - 1) = (m : Int) from by omega]; exact IntWalk.i64_in _ (by omega)
          have hwm2 : IntKind.i64.wrap (m : Int) = (m : Int) := IntWalk.i64_in _ (by omega)
          have hmn : m < n := by omega
          have hmn1 : m + 1 < n := by omega
          have hmj0 : (0 : Int) ≤ (m : Int) + 1 := by omega
          have hmj1 : (m : Int) + 1 < (n : Int) := by omega
          have hmj2 : (m : Int) < (n : Int) := by omega
          have hmj3 : ((m : Int) + 1).toNat = m + 1 := by omega
          by_cases hxy : ltI x y
          · have dc : decide (cmpI x y < 0) = true := decide_eq_true ((cmpI_neg x y).2 hxy)
            go_wp2_with fail
            refine wp_region_held_drew (S := fun W => Below wr.heap.size wr W) (by kernel_rfl) ((Below.refl _ _).drew) (fun hHeld => ?_)
            refine wpAnyH_take (i := 0) (v := .int .i64 ((m + 1 : Nat) : Int)) rfl (by kernel_rfl) (by kernel_rfl) (by kernel_rfl) (fun _ _ _ h => h) (Or.inl ⟨by rfl, ?_⟩) (by assumption) ?_
            · intro w hSw
              go_simp
            show wpAnyH _ _ _ _ _ _ _ (Act.put _ (some 18) _) _
            simp only [Act.put, List.setIfInBounds_toArray, List.set_cons_zero, List.set_cons_succ]
            refine wpAnyH_take (i := 1) (v := .int .i64 0) rfl (by kernel_rfl) (by kernel_rfl) (by kernel_rfl) (fun _ _ _ h => h) (Or.inl ⟨by rfl, ?_⟩) (by assumption) ?_
            · intro w hSw
              go_simp
            show wpAnyH _ _ _ _ _ _ _ (Act.put _ (some 19) _) _
            simp only [Act.put, List.setIfInBounds_toArray, List.set_cons_zero, List.set_cons_succ]
            refine wpAnyH_take (i := 2) (v := .bool true) rfl (by kernel_rfl) (by kernel_rfl) (by kernel_rfl) (fun _ _ _ h => h) (Or.inl ⟨by rfl, ?_⟩) (by assumption) ?_
            · intro w hSw
              go_simp
            show wpAnyH _ _ _ _ _ _ _ (Act.put _ (some 20) _) _
            simp only [Act.put, List.setIfInBounds_toArray, List.set_cons_zero, List.set_cons_succ]
            refine wpAnyH_take (i := 3) (v := .bool true) rfl (by kernel_rfl) (by kernel_rfl) (by kernel_rfl) (fun _ _ _ h => h) (Or.inl ⟨by rfl, ?_⟩) (by assumption) ?_
            · intro w hSw
              go_simp
            show wpAnyH _ _ _ _ _ _ _ (Act.put _ (some 21) _) _
            simp only [Act.put, List.setIfInBounds_toArray, List.set_cons_zero, List.set_cons_succ]
            refine wpAnyH_take (i := 4) (v := .func (Fn.func 83) #[] #[]) rfl (by kernel_rfl) (by kernel_rfl) (by kernel_rfl) (fun _ _ _ h => h) (Or.inl ⟨by rfl, ?_⟩) (by assumption) ?_
            · intro w hSw
              go_simp
            show wpAnyH _ _ _ _ _ _ _ (Act.put _ (some 22) _) _
            simp only [Act.put, List.setIfInBounds_toArray, List.set_cons_zero, List.set_cons_succ]
            refine wpAnyH_take (i := 5) (v := .slice (some ⟨g, 0, none⟩) n c) rfl (by kernel_rfl) (by kernel_rfl) (by kernel_rfl) (fun _ _ _ h => h) (Or.inl ⟨by rfl, ?_⟩) (by assumption) ?_
            · intro w hSw
              go_simp
            show wpAnyH _ _ _ _ _ _ _ (Act.put _ (some 23) _) _
            simp only [Act.put, List.setIfInBounds_toArray, List.set_cons_zero, List.set_cons_succ]
            refine wpAnyH_take (i := 6) (v := .int .i64 ((m + 1 : Nat) : Int)) rfl (by kernel_rfl) (by kernel_rfl) (by kernel_rfl) (fun _ _ _ h => h) (Or.inl ⟨by rfl, ?_⟩) (by assumption) ?_
            · intro w hSw
              go_simp
            show wpAnyH _ _ _ _ _ _ _ (Act.put _ (some 24) _) _
            simp only [Act.put, List.setIfInBounds_toArray, List.set_cons_zero, List.set_cons_succ]
            refine wpAnyH_take (i := 7) (v := .pointer (some ⟨g, (m + 1) * 10, none⟩)) rfl (by kernel_rfl) (by kernel_rfl) (by kernel_rfl) (fun _ _ _ h => h) (Or.inl ⟨by rfl, ?_⟩) (by assumption) ?_
            · intro w hSw
              go_simp
            show wpAnyH _ _ _ _ _ _ _ (Act.put _ (some 25) _) _
            simp only [Act.put, List.setIfInBounds_toArray, List.set_cons_zero, List.set_cons_succ]
            refine wpAnyH_take (i := 8) (v := .agg #[.int .i64 x.id, .int .i64 x.urg, .string x.code, .slice x.nA x.nodes.length x.nc, .int .i64 x.dist, .int .i64 x.since, .slice x.cA x.cl x.cc, .slice x.uA x.ul x.uc, .int .i64 x.merged, .bool x.closed]) rfl (by kernel_rfl) (by kernel_rfl) (by kernel_rfl) (fun _ _ _ h => h) (Or.inl ⟨by rfl, ?_⟩) (by assumption) ?_
            · intro w hSw
              obtain ⟨⟨y0, y1, y2, y3, y4, y5, y6, y7, y8, y9⟩, ⟨x0, x1, x2, x3, x4, x5, x6, x7, x8, x9⟩⟩ := HCELLS.out w hSw
              go_simp
            show wpAnyH _ _ _ _ _ _ _ (Act.put _ (some 26) _) _
            simp only [Act.put, List.setIfInBounds_toArray, List.set_cons_zero, List.set_cons_succ]
            refine wpAnyH_take (i := 9) (v := .slice (some ⟨g, 0, none⟩) n c) rfl (by kernel_rfl) (by kernel_rfl) (by kernel_rfl) (fun _ _ _ h => h) (Or.inl ⟨by rfl, ?_⟩) (by assumption) ?_
            · intro w hSw
              go_simp
            show wpAnyH _ _ _ _ _ _ _ (Act.put _ (some 27) _) _
            simp only [Act.put, List.setIfInBounds_toArray, List.set_cons_zero, List.set_cons_succ]
            refine wpAnyH_take (i := 10) (v := .int .i64 ((m + 1 : Nat) : Int)) rfl (by kernel_rfl) (by kernel_rfl) (by kernel_rfl) (fun _ _ _ h => h) (Or.inl ⟨by rfl, ?_⟩) (by assumption) ?_
            · intro w hSw
              go_simp
            show wpAnyH _ _ _ _ _ _ _ (Act.put _ (some 28) _) _
            simp only [Act.put, List.setIfInBounds_toArray, List.set_cons_zero, List.set_cons_succ]
            refine wpAnyH_take (i := 11) (v := .int .i64 (m : Int)) rfl (by kernel_rfl) (by kernel_rfl) (by kernel_rfl) (fun _ _ _ h => h) (Or.inl ⟨by rfl, ?_⟩) (by assumption) ?_
            · intro w hSw
              go_simp
            show wpAnyH _ _ _ _ _ _ _ (Act.put _ (some 29) _) _
            simp only [Act.put, List.setIfInBounds_toArray, List.set_cons_zero, List.set_cons_succ]
            refine wpAnyH_take (i := 12) (v := .pointer (some ⟨g, m * 10, none⟩)) rfl (by kernel_rfl) (by kernel_rfl) (by kernel_rfl) (fun _ _ _ h => h) (Or.inl ⟨by rfl, ?_⟩) (by assumption) ?_
            · intro w hSw
              go_simp
            show wpAnyH _ _ _ _ _ _ _ (Act.put _ (some 30) _) _
            simp only [Act.put, List.setIfInBounds_toArray, List.set_cons_zero, List.set_cons_succ]
            refine wpAnyH_take (i := 13) (v := .agg #[.int .i64 y.id, .int .i64 y.urg, .string y.code, .slice y.nA y.nodes.length y.nc, .int .i64 y.dist, .int .i64 y.since, .slice y.cA y.cl y.cc, .slice y.uA y.ul y.uc, .int .i64 y.merged, .bool y.closed]) rfl (by kernel_rfl) (by kernel_rfl) (by kernel_rfl) (fun _ _ _ h => h) (Or.inl ⟨by rfl, ?_⟩) (by assumption) ?_
            · intro w hSw
              obtain ⟨⟨y0, y1, y2, y3, y4, y5, y6, y7, y8, y9⟩, ⟨x0, x1, x2, x3, x4, x5, x6, x7, x8, x9⟩⟩ := HCELLS.out w hSw
              go_simp
            show wpAnyH _ _ _ _ _ _ _ (Act.put _ (some 31) _) _
            simp only [Act.put, List.setIfInBounds_toArray, List.set_cons_zero, List.set_cons_succ]
            refine wpAnyH_ready (rs := [14]) (by kernel_rfl) (by simp) ?_
            refine AllReadyH.cons rfl (fun K hK => ?_) AllReadyH.nil
            go_simp
            refine (cmpI_any x y wr.drew).mono ?_
            rintro e w2 ⟨rfl, hb2⟩
            replace hb2 : Below wr.heap.size wr w2 := ⟨hb2.os, hb2.tape, hb2.output, hb2.size, hb2.block⟩
            go_simp
            refine hK.out _ _ hb2 (fun hHeld => ?_)
            clear hK K
            refine wpAnyH_take (i := 15) (v := .bool true) rfl (by kernel_rfl) (by kernel_rfl) (by kernel_rfl) (fun _ _ _ h => h) (Or.inl ⟨by rfl, ?_⟩) (by assumption) ?_
            · intro w hSw
              go_simp
            show wpAnyH _ _ _ _ _ _ _ (Act.put _ (some 33) _) _
            simp only [Act.put, List.setIfInBounds_toArray, List.set_cons_zero, List.set_cons_succ]
            refine wpAnyH_take (i := 16) (v := .bool true) rfl (by kernel_rfl) (by kernel_rfl) (by kernel_rfl) (fun _ _ _ h => h) (Or.inl ⟨by rfl, ?_⟩) (by assumption) ?_
            · intro w hSw
              go_simp
            show wpAnyH _ _ _ _ _ _ _ (Act.put _ (some 34) _) _
            simp only [Act.put, List.setIfInBounds_toArray, List.set_cons_zero, List.set_cons_succ]
            refine wpAnyH_done (by kernel_rfl) ?_ _
            go_wp2_with fail
            have HO2 := Lib.hid (HO.out.kept_new hb2)
            have HON2 := Lib.hid (HON.out.trans (Only.of_below hb2) (fun j _ h => h))
            obtain ⟨⟨y0, y1, y2, y3, y4, y5, y6, y7, y8, y9⟩, ⟨f0, f1, f2, f3, f4, f5, f6, f7, f8, f9⟩⟩ := own_inc HO2.out HLM.out
            obtain ⟨⟨x0, x1, x2, x3, x4, x5, x6, x7, x8, x9⟩, ⟨q0, q1, q2, q3, q4, q5, q6, q7, q8, q9⟩⟩ := own_inc HO2.out HLX.out
            clear hb2 hHeld dc
            go_region
            have HFIN : Hid (OwnInc (putI (putI w2 g (m + 1) y) g m x) base 46 (.slice (some ⟨g, 0, none⟩) n c) (P.take m ++ x :: P.drop m ++ xs.drop (i + 1)) ∧ Only (fun j => j = g) w (putI (putI w2 g (m + 1) y) g m x)) := Lib.hid (by
              have hl1 := (List.getElem?_eq_some_iff.1 HLX.out).1
              have h1 := own_put (k := m) (own_put HO2.out y hl1) x (by rw [List.length_set]; omega)
              rw [swap_list HY.out] at h1
              exact ⟨h1, only_put (only_put HON2.out rfl _ _) rfl _ _⟩)
            clear y0 y1 y2 y3 y4 y5 y6 y7 y8 y9 f0 f1 f2 f3 f4 f5 f6 f7 f8 f9 x0 x1 x2 x3 x4 x5 x6 x7 x8 x9 q0 q1 q2 q3 q4 q5 q6 q7 q8 q9
            go_wp2_with fail
            go_roundw
            case rel =>
              refine ⟨m, by omega, by go_num, HFIN.out.1.drewN 1, ?_, HFIN.out.2.drewN 1⟩
              intro z hz
              have hl := (List.getElem?_eq_some_iff.1 HY.out).1
              rw [List.drop_eq_getElem_cons hl, (List.getElem?_eq_some_iff.1 HY.out).2] at hz
              rcases List.mem_cons.1 hz with rfl | hz
              · exact hxy
              · exact HALL.out z hz
            case measure => simp [intOf]
          · have dc : decide (cmpI x y < 0) = false := decide_eq_false (fun h => hxy ((cmpI_neg x y).1 h))
            go_wp2_with fail
            refine wp_region_held_drew (S := fun W => Below wr.heap.size wr W) (by kernel_rfl) ((Below.refl _ _).drew) (fun hHeld => ?_)
            refine wpAnyH_take (i := 0) (v := .int .i64 ((m + 1 : Nat) : Int)) rfl (by kernel_rfl) (by kernel_rfl) (by kernel_rfl) (fun _ _ _ h => h) (Or.inl ⟨by rfl, ?_⟩) (by assumption) ?_
            · intro w hSw
              go_simp
            show wpAnyH _ _ _ _ _ _ _ (Act.put _ (some 18) _) _
            simp only [Act.put, List.setIfInBounds_toArray, List.set_cons_zero, List.set_cons_succ]
            refine wpAnyH_take (i := 1) (v := .int .i64 0) rfl (by kernel_rfl) (by kernel_rfl) (by kernel_rfl) (fun _ _ _ h => h) (Or.inl ⟨by rfl, ?_⟩) (by assumption) ?_
            · intro w hSw
              go_simp
            show wpAnyH _ _ _ _ _ _ _ (Act.put _ (some 19) _) _
            simp only [Act.put, List.setIfInBounds_toArray, List.set_cons_zero, List.set_cons_succ]
            refine wpAnyH_take (i := 2) (v := .bool true) rfl (by kernel_rfl) (by kernel_rfl) (by kernel_rfl) (fun _ _ _ h => h) (Or.inl ⟨by rfl, ?_⟩) (by assumption) ?_
            · intro w hSw
              go_simp
            show wpAnyH _ _ _ _ _ _ _ (Act.put _ (some 20) _) _
            simp only [Act.put, List.setIfInBounds_toArray, List.set_cons_zero, List.set_cons_succ]
            refine wpAnyH_take (i := 3) (v := .bool true) rfl (by kernel_rfl) (by kernel_rfl) (by kernel_rfl) (fun _ _ _ h => h) (Or.inl ⟨by rfl, ?_⟩) (by assumption) ?_
            · intro w hSw
              go_simp
            show wpAnyH _ _ _ _ _ _ _ (Act.put _ (some 21) _) _
            simp only [Act.put, List.setIfInBounds_toArray, List.set_cons_zero, List.set_cons_succ]
            refine wpAnyH_take (i := 4) (v := .func (Fn.func 83) #[] #[]) rfl (by kernel_rfl) (by kernel_rfl) (by kernel_rfl) (fun _ _ _ h => h) (Or.inl ⟨by rfl, ?_⟩) (by assumption) ?_
            · intro w hSw
              go_simp
            show wpAnyH _ _ _ _ _ _ _ (Act.put _ (some 22) _) _
            simp only [Act.put, List.setIfInBounds_toArray, List.set_cons_zero, List.set_cons_succ]
            refine wpAnyH_take (i := 5) (v := .slice (some ⟨g, 0, none⟩) n c) rfl (by kernel_rfl) (by kernel_rfl) (by kernel_rfl) (fun _ _ _ h => h) (Or.inl ⟨by rfl, ?_⟩) (by assumption) ?_
            · intro w hSw
              go_simp
            show wpAnyH _ _ _ _ _ _ _ (Act.put _ (some 23) _) _
            simp only [Act.put, List.setIfInBounds_toArray, List.set_cons_zero, List.set_cons_succ]
            refine wpAnyH_take (i := 6) (v := .int .i64 ((m + 1 : Nat) : Int)) rfl (by kernel_rfl) (by kernel_rfl) (by kernel_rfl) (fun _ _ _ h => h) (Or.inl ⟨by rfl, ?_⟩) (by assumption) ?_
            · intro w hSw
              go_simp
            show wpAnyH _ _ _ _ _ _ _ (Act.put _ (some 24) _) _
            simp only [Act.put, List.setIfInBounds_toArray, List.set_cons_zero, List.set_cons_succ]
            refine wpAnyH_take (i := 7) (v := .pointer (some ⟨g, (m + 1) * 10, none⟩)) rfl (by kernel_rfl) (by kernel_rfl) (by kernel_rfl) (fun _ _ _ h => h) (Or.inl ⟨by rfl, ?_⟩) (by assumption) ?_
            · intro w hSw
              go_simp
            show wpAnyH _ _ _ _ _ _ _ (Act.put _ (some 25) _) _
            simp only [Act.put, List.setIfInBounds_toArray, List.set_cons_zero, List.set_cons_succ]
            refine wpAnyH_take (i := 8) (v := .agg #[.int .i64 x.id, .int .i64 x.urg, .string x.code, .slice x.nA x.nodes.length x.nc, .int .i64 x.dist, .int .i64 x.since, .slice x.cA x.cl x.cc, .slice x.uA x.ul x.uc, .int .i64 x.merged, .bool x.closed]) rfl (by kernel_rfl) (by kernel_rfl) (by kernel_rfl) (fun _ _ _ h => h) (Or.inl ⟨by rfl, ?_⟩) (by assumption) ?_
            · intro w hSw
              obtain ⟨⟨y0, y1, y2, y3, y4, y5, y6, y7, y8, y9⟩, ⟨x0, x1, x2, x3, x4, x5, x6, x7, x8, x9⟩⟩ := HCELLS.out w hSw
              go_simp
            show wpAnyH _ _ _ _ _ _ _ (Act.put _ (some 26) _) _
            simp only [Act.put, List.setIfInBounds_toArray, List.set_cons_zero, List.set_cons_succ]
            refine wpAnyH_take (i := 9) (v := .slice (some ⟨g, 0, none⟩) n c) rfl (by kernel_rfl) (by kernel_rfl) (by kernel_rfl) (fun _ _ _ h => h) (Or.inl ⟨by rfl, ?_⟩) (by assumption) ?_
            · intro w hSw
              go_simp
            show wpAnyH _ _ _ _ _ _ _ (Act.put _ (some 27) _) _
            simp only [Act.put, List.setIfInBounds_toArray, List.set_cons_zero, List.set_cons_succ]
            refine wpAnyH_take (i := 10) (v := .int .i64 ((m + 1 : Nat) : Int)) rfl (by kernel_rfl) (by kernel_rfl) (by kernel_rfl) (fun _ _ _ h => h) (Or.inl ⟨by rfl, ?_⟩) (by assumption) ?_
            · intro w hSw
              go_simp
            show wpAnyH _ _ _ _ _ _ _ (Act.put _ (some 28) _) _
            simp only [Act.put, List.setIfInBounds_toArray, List.set_cons_zero, List.set_cons_succ]
            refine wpAnyH_take (i := 11) (v := .int .i64 (m : Int)) rfl (by kernel_rfl) (by kernel_rfl) (by kernel_rfl) (fun _ _ _ h => h) (Or.inl ⟨by rfl, ?_⟩) (by assumption) ?_
            · intro w hSw
              go_simp
            show wpAnyH _ _ _ _ _ _ _ (Act.put _ (some 29) _) _
            simp only [Act.put, List.setIfInBounds_toArray, List.set_cons_zero, List.set_cons_succ]
            refine wpAnyH_take (i := 12) (v := .pointer (some ⟨g, m * 10, none⟩)) rfl (by kernel_rfl) (by kernel_rfl) (by kernel_rfl) (fun _ _ _ h => h) (Or.inl ⟨by rfl, ?_⟩) (by assumption) ?_
            · intro w hSw
              go_simp
            show wpAnyH _ _ _ _ _ _ _ (Act.put _ (some 30) _) _
            simp only [Act.put, List.setIfInBounds_toArray, List.set_cons_zero, List.set_cons_succ]
            refine wpAnyH_take (i := 13) (v := .agg #[.int .i64 y.id, .int .i64 y.urg, .string y.code, .slice y.nA y.nodes.length y.nc, .int .i64 y.dist, .int .i64 y.since, .slice y.cA y.cl y.cc, .slice y.uA y.ul y.uc, .int .i64 y.merged, .bool y.closed]) rfl (by kernel_rfl) (by kernel_rfl) (by kernel_rfl) (fun _ _ _ h => h) (Or.inl ⟨by rfl, ?_⟩) (by assumption) ?_
            · intro w hSw
              obtain ⟨⟨y0, y1, y2, y3, y4, y5, y6, y7, y8, y9⟩, ⟨x0, x1, x2, x3, x4, x5, x6, x7, x8, x9⟩⟩ := HCELLS.out w hSw
              go_simp
            show wpAnyH _ _ _ _ _ _ _ (Act.put _ (some 31) _) _
            simp only [Act.put, List.setIfInBounds_toArray, List.set_cons_zero, List.set_cons_succ]
            refine wpAnyH_ready (rs := [14]) (by kernel_rfl) (by simp) ?_
            refine AllReadyH.cons rfl (fun K hK => ?_) AllReadyH.nil
            go_simp
            refine (cmpI_any x y wr.drew).mono ?_
            rintro e w2 ⟨rfl, hb2⟩
            replace hb2 : Below wr.heap.size wr w2 := ⟨hb2.os, hb2.tape, hb2.output, hb2.size, hb2.block⟩
            go_simp
            refine hK.out _ _ hb2 (fun hHeld => ?_)
            clear hK K
            refine wpAnyH_take (i := 15) (v := .bool false) rfl (by kernel_rfl) (by kernel_rfl) (by kernel_rfl) (fun _ _ _ h => h) (Or.inl ⟨by rfl, ?_⟩) (by assumption) ?_
            · intro w hSw
              go_simp
            show wpAnyH _ _ _ _ _ _ _ (Act.put _ (some 33) _) _
            simp only [Act.put, List.setIfInBounds_toArray, List.set_cons_zero, List.set_cons_succ]
            refine wpAnyH_take (i := 16) (v := .bool false) rfl (by kernel_rfl) (by kernel_rfl) (by kernel_rfl) (fun _ _ _ h => h) (Or.inl ⟨by rfl, ?_⟩) (by assumption) ?_
            · intro w hSw
              go_simp
            show wpAnyH _ _ _ _ _ _ _ (Act.put _ (some 34) _) _
            simp only [Act.put, List.setIfInBounds_toArray, List.set_cons_zero, List.set_cons_succ]
            refine wpAnyH_done (by kernel_rfl) ?_ _
            go_wp2_with fail
            go_roundw
            case rel =>
              refine ⟨i + 1, by omega, by omega, by go_num, ?_, HON.out.trans (Only.of_below hb2) (fun j _ h => h)⟩
              rw [HNEXT.out, ← insL_at (j := m + 1) HSP.out (by rw [HPL.out]; omega) HALL.out (fun z hz _ => by rw [Nat.add_sub_cancel, HY.out] at hz; cases hz; exact hxy)]
              exact HO.out.kept_new hb2
            case measure => simp [intOf]; omega
    · have hii : i = n := by omega
      subst hii
      go_wp2_with fail
      go_end0
      refine ⟨rfl, ?_, HON.out⟩
      have h := HO.out
      rw [HNX.out, List.take_length, List.drop_length, List.append_nil, ← HNX.out] at h
      exact h

theorem insertion_none (A : Option Addr) (c : Nat) (w : World) : Calls Tryz.prog 119 #[.slice A 0 c, .int .i64 0, .int .i64 0, .func (Fn.func 83) #[] #[]] w fun e w' => e = .returned (.tuple #[]) ∧ w = w' := by
  go_enter Tryz.func119, Tryz.ntmps119
  go_wp2_with fail
  go_loop [8] (fun i => i = .int .i64 1) (fun _ => 0)
  case atStart => rfl
  case round =>
    subst hrel
    go_wp2_with fail
    go_end0
    exact ⟨rfl, rfl⟩

/-- sorted in place; other blocks as they were. -/
def RetStable (w : World) (base : Nat) (v : Value) (L : List IncT) (e : Ending) (w' : World) : Prop := e = .returned (.tuple #[]) ∧ OwnInc w' base 46 v L ∧ Only (fun j => v.ownBlock = some j) w w'

theorem insertion_all (v : Value) (base : Nat) (xs : List IncT) (w : World) (hown : OwnInc w base 46 v xs) (hn : xs.length ≤ 65536) :
    Calls Tryz.prog 119 #[v, .int .i64 0, .int .i64 xs.length, .func (Fn.func 83) #[] #[]] w (RetStable w base v (sortK xs)) := by
  obtain ⟨A, c, rfl, _⟩ := hown.sl
  by_cases h0 : xs = []
  · subst h0
    refine (insertion_none A c w).mono ?_
    rintro e w' ⟨rfl, rfl⟩
    exact ⟨rfl, hown, Only.refl⟩
  · have hpos : 1 ≤ xs.length := by
      cases xs with
      | nil => exact absurd rfl h0
      | cons x xs => simp
    have h2 := hown.2
    rcases h2 with ⟨e1, e2⟩ | ⟨g, cap, cur, e1, _⟩
    · omega
    · injection e1 with e1 e2 e3
      subst e1 e3
      refine (insertion_any g xs.length c base xs w hown hn hpos).mono ?_
      rintro e w' ⟨rfl, h1, h2⟩
      exact ⟨rfl, h1, h2.mono (fun j _ e => by rw [e]; rfl)⟩

set_option maxRecDepth 100000 in
theorem stable_any (v : Value) (base : Nat) (xs : List IncT) (w : World) (hown : OwnInc w base 46 v xs) (hn : xs.length ≤ 19) :
    Calls Tryz.prog 101 #[v, .int .i64 xs.length, .func (Fn.func 83) #[] #[]] w (RetStable w base v (sortK xs)) := by
  have HI := Lib.hid (insertion_all v base xs w hown (by omega))
  have d1 : decide ((20 : Int) ≤ (xs.length : Int)) = false := decide_eq_false (by omega)
  have d2 : decide ((20 : Int) < (xs.length : Int)) = false := decide_eq_false (by omega)
  clear hown
  go_enter Tryz.func101, Tryz.ntmps101
  go_wp2_with fail
  go_loopw [7, 8] (fun a b wr => a = .int .i64 0 ∧ b = .int .i64 20 ∧ wr = w) (fun _ _ _ => 0)
  case atStart => exact ⟨rfl, rfl, rfl⟩
  case round =>
    obtain ⟨rfl, rfl, rfl⟩ := hrel
    go_wp2_with fail
    ((with_reducible refine HI.out.mono ?_))
    rintro e w1 ⟨rfl, h1, h2⟩
    have H1 := Lib.hid h1
    have H2 := Lib.hid h2
    clear h1 h2 HI
    go_wp2_with fail
    go_loopw [6] (fun a wx => a = .int .i64 20 ∧ wx = w1) (fun _ _ => 0)
    case atStart => exact ⟨rfl, rfl⟩
    case round =>
      obtain ⟨rfl, rfl⟩ := hrel
      go_wp2_with fail
      go_end0
      exact ⟨rfl, H1.out, H2.out⟩

set_option maxRecDepth 100000 in
theorem sortStable_any (v : Value) (base : Nat) (xs : List IncT) (w : World) (hown : OwnInc w base 46 v xs) (hn : xs.length ≤ 19) :
    Calls Tryz.prog 82 #[v, .func (Fn.func 83) #[] #[]] w (RetStable w base v (sortK xs)) := by
  have HI := Lib.hid (stable_any v base xs w hown (by omega))
  obtain ⟨A, c, rfl, _⟩ := hown.sl
  clear hown
  go_enter Tryz.func82, Tryz.ntmps82
  go_wp2_with fail
  ((with_reducible refine HI.out.mono ?_))
  rintro e w1 ⟨rfl, h1, h2⟩
  have H1 := Lib.hid h1
  have H2 := Lib.hid h2
  clear h1 h2
  go_wp2_with fail
  go_end0
  exact ⟨rfl, H1.out, H2.out⟩
end
section
open Go.RowKit Go.Maps

def RetIncs (w : World) (xs : List IncT) (e : Ending) (w' : World) : Prop := ∃ v, e = .returned v ∧ OwnInc w' w.heap.size 46 v xs ∧ Below w.heap.size w w'

set_option maxRecDepth 100000 in
set_option maxHeartbeats 2000000 in
theorem openOnes_any (A : Option Addr) (c : Nat) (xs : List IncT) (w : World) (hi : IncsAt w w.heap.size A xs) (hl : xs.length ≤ 19) :
    Calls Tryz.prog 63 #[.slice A xs.length c] w (RetIncs w (sortK (xs.filter openI))) := by
  have HI := Lib.hid hi
  clear hi
  go_enter Tryz.func63, Tryz.ntmps63
  go_wp2_with fail
  go_loopw [3, 8] (fun v i wr => ∃ k : Nat, k ≤ xs.length ∧ i = .int .i64 k ∧ OwnInc wr w.heap.size 46 v ((xs.take k).filter openI) ∧ Below w.heap.size w wr) (fun _ i _ => xs.length - (intOf i).toNat)
  case atStart => exact ⟨0, Nat.zero_le _, rfl, OwnR.nil _ _ _, Below.refl _ _⟩
  case round =>
    obtain ⟨k, hk, rfl, hown, hb⟩ := hrel
    have hmb := hb.size
    have hfl : ((xs.take k).filter openI).length ≤ k := Nat.le_trans (List.length_filter_le _ _) (List.length_take_le _ _)
    by_cases hlt : k < xs.length
    · obtain ⟨x, hx⟩ : ∃ x, xs[k]? = some x := ⟨xs[k], by simp⟩
      obtain ⟨bu, ou, rfl, hbu, c0, c1, c2, c3, c4, c5, c6, c7, c8, c9⟩ := inc_at (HI.out.below hb) hx
      have HT : Hid ((xs.take (k + 1)).filter openI = (xs.take k).filter openI ++ if openI x = true then [x] else []) := Lib.hid (by
        rw [take_snoc' hx, List.filter_append]
        congr 1
        cases h : openI x <;> simp [h])
      have HBA := Lib.hid (hb.alloc hmb (objI x))
      replace hown := hown.alloc (objI x)
      clear hx hb
      by_cases h1 : x.closed = true
      · have HF : Hid (openI x = false) := Lib.hid (by simp [openI, h1])
        go_wp2_with fail
        go_roundw
        case rel =>
          have hq := HBA.out
          rw [objI, h1] at hq hown
          refine ⟨k + 1, by omega, by go_num, ?_, hq⟩
          rw [HT.out, HF.out]
          simpa using hown
        case measure => simp [intOf]; omega
      · have h1' : x.closed = false := by simpa using h1
        clear h1
        by_cases h2 : x.merged = 0
        · have d2 : (x.merged == 0) = true := by simp [h2]
          have HF : Hid (openI x = true) := Lib.hid (by simp [openI, h1', h2])
          clear h2
          go_wp2_with (at_builtin; refine wpList_append_rec _ rfl _ _ 26 rfl w.heap.size 46 Tryz.underlying26 inc_info rfl (by omega) (by omega) cellsI_len _ _ (wr.alloc (objI x)) x (cellsI_one _) #[.int .i64 x.id, .int .i64 x.urg, .string x.code, .slice x.nA x.nodes.length x.nc, .int .i64 x.dist, .int .i64 x.since, .slice x.cA x.cl x.cc, .slice x.uA x.ul x.uc, .int .i64 x.merged, .bool false] (by rw [← h1']; rfl) (by rw [objI, h1']) rfl hown _ rfl (by simp) (by omega) (by simp; omega) ?_; intro v1 w1 hown1 hg1)
          go_roundw
          case rel =>
            refine ⟨k + 1, by omega, by go_num, ?_, HBA.out.grown hg1 HBA.out.size (fun j hj => hown.ge_base _ hj)⟩
            rw [HT.out, HF.out, if_pos rfl]
            exact hown1
          case measure => simp [intOf]; omega
        · have d2 : (x.merged == 0) = false := by simp [h2]
          have HF : Hid (openI x = false) := Lib.hid (by simp [openI, h2])
          clear h2
          go_wp2_with fail
          go_roundw
          case rel =>
            refine ⟨k + 1, by omega, by go_num, ?_, ?_⟩
            · rw [HT.out, HF.out]
              have : OwnInc (wr.alloc (objI x)) w.heap.size 46 u3 ((xs.take k).filter openI ++ if false = true then [x] else []) := by simpa using hown
              rw [objI, h1'] at this
              exact this
            · have := HBA.out
              rw [objI, h1'] at this
              exact this
          case measure => simp [intOf]; omega
    · have hkk : k = xs.length := by omega
      subst hkk
      rw [List.take_length] at hown hfl
      have hst := sortStable_any u3 w.heap.size (xs.filter openI) wr hown (by omega)
      have HST := Lib.hid hst
      have HGE := Lib.hid hown.ge_base
      have HB := Lib.hid hb
      obtain ⟨A3, c3, rfl, _⟩ := hown.sl
      clear hown hst hb
      go_wp2_with fail
      ((with_reducible refine HST.out.mono ?_))
      rintro e w1 ⟨rfl, h1, h2⟩
      have H1 := Lib.hid h1
      have HB2 : Hid (Below w.heap.size w w1) := Lib.hid (HB.out.trans (h2.below HB.out.size (fun j hj => HGE.out j hj)))
      clear h1 h2 HST
      go_wp2_with fail
      go_ret
      exact ⟨_, rfl, H1.out, HB2.out⟩
end
end Go.Proofs.YtimijjhdgihobaaGreatDoor
