/-
  protocol.parseHeader.
-/
import Derived.Test.YtbbklideciappaaGreatDoorPqK
import Derived.Test.YtbbklideciappaaGreatDoorPqW
namespace Go.Proofs.YtbbklideciappaaGreatDoor
open Go.RowKit

def protV (n : ByteArray) (v : Int) (A : Option Addr) (k c : Nat) : Value := .agg #[.string n, .int .i64 v, .slice A k c]
/-- what parseHeader returns. -/
def RetHd (l : List UInt8) (w : World) (e : Ending) (w' : World) : Prop :=
  ((∃ n v, IsHead l n v ∧ e = .returned (.tuple #[protV n v none 0 0, .bool true])) ∨ ((∀ n v, ¬ IsHead l n v) ∧ e = .returned (.tuple #[protV ⟨#[]⟩ 0 none 0 0, .bool false]))) ∧ Below w.heap.size w w'
theorem words_list (s : ByteArray) (k : Nat) : (Lib.splitB ⟨#[32]⟩ 0 k s).map (·.data.toList) = Lib.splitK [32] 0 k s.data.toList := Lib.splitB_data ⟨#[32]⟩ 0 k s
theorem eq_lit {s : ByteArray} {l : List UInt8} : (s.toList == l) = decide (s.data.toList = l) := by
  rw [ByteArray.toList_eq, Bool.eq_iff_iff]
  simp
theorem words_cell (w : World) (ws : List ByteArray) (cp j : Nat) (t : TypeId) {x : ByteArray} (h : ws[j]? = some x) : (w.alloc (.cells (Lib.cellsOf ws cp) t)).cell? ⟨w.heap.size, j, none⟩ = some (.string x) :=
  cell_new w (ws.map Value.string ++ List.replicate (cp - ws.length) (Value.string ByteArray.empty)) t (by
    rw [List.getElem?_append_left (by simpa using (List.getElem?_eq_some_iff.1 h).1)]
    simp [h])
theorem free_new (w : World) (vs : Array Value) (t : TypeId) (j : Nat) : (w.alloc (.cells vs t)).frozen? ⟨w.heap.size, j, none⟩ = false := by simp
theorem bs_of' (s : ByteArray) : (⟨s.data.toList.toArray⟩ : ByteArray) = s := (bs_of s).symm
set_option maxRecDepth 100000 in
set_option maxHeartbeats 2000000 in
theorem parseHeader_any (s : ByteArray) (hs : s.size ≤ 1000000000) (w : World) (hr : Ready w) : Calls Tryz.prog 29 #[.string s] w (RetHd s.data.toList w) := by
  have hz := lt_new w (.cells #[.string ⟨#[]⟩, .int .i64 0, .slice none 0 0] 24)
  have hb0 := below_new w (.cells #[.string ⟨#[]⟩, .int .i64 0, .slice none 0 0] 24)
  obtain ⟨c0, c1, c2⟩ := fresh3 w (.string ⟨#[]⟩) (.int .i64 0) (.slice none 0 0) 24
  have k0 := free_new w #[.string ⟨#[]⟩, .int .i64 0, .slice none 0 0] 24
  obtain ⟨W1, hW1⟩ : ∃ W1, W1 = w.alloc (.cells #[.string ⟨#[]⟩, .int .i64 0, .slice none 0 0] 24) := ⟨_, rfl⟩
  rw [← hW1] at c0 c1 c2 hz hb0 k0
  have hr1 := hr.below hb0
  obtain ⟨mx1, hmx1⟩ := hr1.most
  have HSP := Lib.hid (Tryz.strings_SplitN s ⟨#[32]⟩ 4 mx1 W1 (by omega) hmx1 (by decide) (by omega) (by omega))
  have HWL := Lib.hid (words_list s (min 4 (s.size + 1) - 1))
  obtain ⟨ws, hws⟩ : ∃ ws, ws = Lib.splitB ⟨#[32]⟩ 0 (min 4 (s.size + 1) - 1) s := ⟨_, rfl⟩
  obtain ⟨cp, hcp⟩ : ∃ cp, cp = min 4 (s.size + 1) := ⟨_, rfl⟩
  have hwsl : ws.length ≤ 4 := by
    rw [hws]
    have := Lib.splitB_length_le ⟨#[32]⟩ 0 (min 4 (s.size + 1) - 1) s
    omega
  rw [← hws, ← hcp] at HSP
  rw [← hws] at HWL
  have HNO : Hid (∀ n v, IsHead s.data.toList n v → ws.map (·.data.toList) = [wProt, n.data.toList, dec v]) := Lib.hid (fun n v h => by
    have := head_words h
    rw [show s.data.toList.length = s.size by simp] at this
    rw [HWL.out, this])
  have hb1 := below_new W1 (.cells (Lib.cellsOf ws cp) 9)
  have HWC := Lib.hid (fun j x (h : ws[j]? = some x) => words_cell W1 ws cp j 9 h)
  obtain ⟨W2, hW2⟩ : ∃ W2, W2 = W1.alloc (.cells (Lib.cellsOf ws cp) 9) := ⟨_, rfl⟩
  rw [← hW2] at HSP HWC hb1
  have HB2 := Lib.hid (hb0.trans (hb1.mono hb0.size))
  have HR2 := Lib.hid (hr1.below hb1)
  have q0 := (hb1.cell (p := ⟨w.heap.size, 0, none⟩) hz).trans c0
  have q1 := (hb1.cell (p := ⟨w.heap.size, 1, none⟩) hz).trans c1
  have q2 := (hb1.cell (p := ⟨w.heap.size, 2, none⟩) hz).trans c2
  have l0 := (hb1.frozen (p := ⟨w.heap.size, 0, none⟩) hz).trans (k0 0)
  have l1 := (hb1.frozen (p := ⟨w.heap.size, 1, none⟩) hz).trans (k0 1)
  have l2 := (hb1.frozen (p := ⟨w.heap.size, 2, none⟩) hz).trans (k0 2)
  have hz2 := Nat.lt_of_lt_of_le hz hb1.size
  have HLT := Lib.hid (show W1.heap.size < W2.heap.size by rw [hW2]; exact lt_new _ _)
  clear c0 c1 c2 hz hb0 k0 hr1 hmx1 hws hcp hb1 hW2 hr
  by_cases hl : ws.length = 3
  · obtain ⟨x0, x1, x2, rfl⟩ : ∃ a b c, ws = [a, b, c] := by
      match ws, hl with
      | [a, b, c], _ => exact ⟨a, b, c, rfl⟩
    have g0 := HWC.out 0 x0 rfl
    have g1 := HWC.out 1 x1 rfl
    have g2 := HWC.out 2 x2 rfl
    have HNO2 : Hid (∀ n v, IsHead s.data.toList n v → x0.data.toList = wProt ∧ x1 = n ∧ x2.data.toList = dec v) := Lib.hid (fun n v h => by
      have := HNO.out n v h
      simp only [List.map_cons, List.map_nil, List.cons.injEq, and_true] at this
      exact ⟨this.1, toList_inj this.2.1, this.2.2⟩)
    have HWL3 := HWL.out
    simp only [List.map_cons, List.map_nil] at HWL3
    have HW3 := Lib.hid HWL3.symm
    have dl : (((3 : Nat) : Int) != 3) = false := rfl
    have hsz2 : x2.size ≤ 1099511627776 := by
      have h1 := join_split (min 4 (s.size + 1) - 1) s.data.toList
      rw [HW3.out, join_three] at h1
      have h2 := congrArg List.length h1
      simp only [List.length_append, List.length_cons, List.length_nil] at h2
      have h3 : s.data.toList.length = s.size := by simp
      have h4 : x2.data.toList.length = x2.size := by simp
      omega
    have hgl := Lib.hid (show W1.heap.size < W2.heap.size from HLT.out)
    clear HWL3 hl hwsl HNO HWL HWC
    simp only [List.length_cons, List.length_nil] at HSP
    have HNM := Lib.hid (fun X => isName_any x1 X)
    by_cases h0 : x0.data.toList = wProt
    · have d0 : (x0.toList == [112, 114, 111, 116, 111, 99, 111, 108]) = true := eq_lit.trans (decide_eq_true h0)
      by_cases h1 : NameOk x1
      · rw [tb_true h1] at HNM
        have HP := Lib.hid (And.intro h0 h1)
        have HNB := Lib.hid (number_any x2 hsz2 W2 HR2.out)
        clear h0 h1
        go_enter Tryz.func29, Tryz.ntmps29
        go_wp2_with fail
        rw [← hW1]
        clear hW1
        refine HSP.out.mono ?_
        rintro e w' ⟨rfl, rfl⟩
        go_wp2_with fail
        refine (HNM.out _).mono ?_
        rintro e w' ⟨rfl, rfl⟩
        go_wp2_with fail
        refine HNB.out.mono ?_
        rintro e W3 ⟨⟨z, b, hnr, rfl⟩, hb3⟩
        have q0 := (hb3.cell (p := ⟨w.heap.size, 0, none⟩) hz2).trans q0
        have q1 := (hb3.cell (p := ⟨w.heap.size, 1, none⟩) hz2).trans q1
        have q2 := (hb3.cell (p := ⟨w.heap.size, 2, none⟩) hz2).trans q2
        have l0 := (hb3.frozen (p := ⟨w.heap.size, 0, none⟩) hz2).trans l0
        have l1 := (hb3.frozen (p := ⟨w.heap.size, 1, none⟩) hz2).trans l1
        have l2 := (hb3.frozen (p := ⟨w.heap.size, 2, none⟩) hz2).trans l2
        have g1 := (hb3.cell (p := ⟨W1.heap.size, 1, none⟩) hgl.out).trans g1
        have HBB := Lib.hid (HB2.out.trans (hb3.mono HB2.out.size))
        have HNR := Lib.hid hnr
        clear hnr hb3
        cases b
        · have HN : Hid (∀ n v, ¬ IsHead s.data.toList n v) := Lib.hid (fun n v h => by
            have h2 := (HNO2.out n v h).2.2
            have h3 := h.2.2
            unfold VerOk at h3
            have := (HNR.out.1 v.toNat (by omega) h2.symm).2
            cases this)
          go_wp2_with fail
          refine bodyPost_ret (v := .tuple #[protV ⟨#[]⟩ 0 none 0 0, .bool false]) (by simp [results, Tryz.results29, go_sem, q0, q1, q2, protV]) rfl ?_
          exact ⟨.inr ⟨HN.out, rfl⟩, ((HBB.out.setCell (p := ⟨w.heap.size, 0, none⟩) (Nat.le_refl _) _).setCell (p := ⟨w.heap.size, 1, none⟩) (Nat.le_refl _) _).setCell (p := ⟨w.heap.size, 2, none⟩) (Nat.le_refl _) _⟩
        · have HVR := Lib.hid (fun X => isVersion_any z X)
          by_cases hv : VerOk z
          · rw [tb_true hv] at HVR
            have HY : Hid (IsHead s.data.toList x1 z) := Lib.hid (by
              have h1 := head_of (l := s.data.toList) (k := min 4 (s.size + 1) - 1) (b := x1.data.toList) (c := x2.data.toList) (v := z) (by rw [HW3.out, HP.out.1]) (by rw [bs_of']; exact HP.out.2) (HNR.out.2 rfl).2 hv
              rwa [bs_of'] at h1)
            clear hv
            go_wp2_with fail
            refine (HVR.out _).mono ?_
            rintro e w' ⟨rfl, rfl⟩
            go_wp2_with fail
            refine bodyPost_ret (v := .tuple #[protV x1 z none 0 0, .bool true]) (by simp [results, Tryz.results29, go_sem, q0, q1, q2, protV]) rfl ?_
            exact ⟨.inl ⟨x1, z, HY.out, rfl⟩, ((HBB.out.setCell (p := ⟨w.heap.size, 0, none⟩) (Nat.le_refl _) _).setCell (p := ⟨w.heap.size, 1, none⟩) (Nat.le_refl _) _).setCell (p := ⟨w.heap.size, 2, none⟩) (Nat.le_refl _) _⟩
          · rw [tb_false hv] at HVR
            have HN : Hid (∀ n v, ¬ IsHead s.data.toList n v) := Lib.hid (fun n v h => by
              have h2 := (HNO2.out n v h).2.2
              have h3 := h.2.2
              have h4 := h3
              unfold VerOk at h3
              have h5 := (HNR.out.1 v.toNat (by omega) h2.symm).1
              rw [show z = v by omega] at hv
              exact hv h4)
            clear hv
            go_wp2_with fail
            refine (HVR.out _).mono ?_
            rintro e w' ⟨rfl, rfl⟩
            go_wp2_with fail
            refine bodyPost_ret (v := .tuple #[protV ⟨#[]⟩ 0 none 0 0, .bool false]) (by simp [results, Tryz.results29, go_sem, q0, q1, q2, protV]) rfl ?_
            exact ⟨.inr ⟨HN.out, rfl⟩, ((HBB.out.setCell (p := ⟨w.heap.size, 0, none⟩) (Nat.le_refl _) _).setCell (p := ⟨w.heap.size, 1, none⟩) (Nat.le_refl _) _).setCell (p := ⟨w.heap.size, 2, none⟩) (Nat.le_refl _) _⟩
      · rw [tb_false h1] at HNM
        have HN : Hid (∀ n v, ¬ IsHead s.data.toList n v) := Lib.hid (fun n v h => h1 (by rw [(HNO2.out n v h).2.1]; exact h.2.1))
        have HBB := HB2
        clear h0 h1
        go_enter Tryz.func29, Tryz.ntmps29
        go_wp2_with fail
        rw [← hW1]
        clear hW1
        refine HSP.out.mono ?_
        rintro e w' ⟨rfl, rfl⟩
        go_wp2_with fail
        refine (HNM.out _).mono ?_
        rintro e w' ⟨rfl, rfl⟩
        go_wp2_with fail
        refine bodyPost_ret (v := .tuple #[protV ⟨#[]⟩ 0 none 0 0, .bool false]) (by simp [results, Tryz.results29, go_sem, q0, q1, q2, protV]) rfl ?_
        exact ⟨.inr ⟨HN.out, rfl⟩, ((HBB.out.setCell (p := ⟨w.heap.size, 0, none⟩) (Nat.le_refl _) _).setCell (p := ⟨w.heap.size, 1, none⟩) (Nat.le_refl _) _).setCell (p := ⟨w.heap.size, 2, none⟩) (Nat.le_refl _) _⟩
    · have d0 : (x0.toList == [112, 114, 111, 116, 111, 99, 111, 108]) = false := eq_lit.trans (decide_eq_false h0)
      have HN : Hid (∀ n v, ¬ IsHead s.data.toList n v) := Lib.hid (fun n v h => h0 (HNO2.out n v h).1)
      have HBB := HB2
      clear h0
      go_enter Tryz.func29, Tryz.ntmps29
      go_wp2_with fail
      rw [← hW1]
      clear hW1
      refine HSP.out.mono ?_
      rintro e w' ⟨rfl, rfl⟩
      go_wp2_with fail
      refine bodyPost_ret (v := .tuple #[protV ⟨#[]⟩ 0 none 0 0, .bool false]) (by simp [results, Tryz.results29, go_sem, q0, q1, q2, protV]) rfl ?_
      exact ⟨.inr ⟨HN.out, rfl⟩, ((HBB.out.setCell (p := ⟨w.heap.size, 0, none⟩) (Nat.le_refl _) _).setCell (p := ⟨w.heap.size, 1, none⟩) (Nat.le_refl _) _).setCell (p := ⟨w.heap.size, 2, none⟩) (Nat.le_refl _) _⟩
  · have HN : Hid (∀ n v, ¬ IsHead s.data.toList n v) := Lib.hid (fun n v h => hl (by
      have := congrArg List.length (HNO.out n v h)
      simpa using this))
    have dl : ((ws.length : Int) != 3) = true := by simp; omega
    obtain ⟨m, hm⟩ : ∃ m, m = ws.length := ⟨_, rfl⟩
    rw [← hm] at HSP dl
    clear hl hm hwsl
    go_enter Tryz.func29, Tryz.ntmps29
    go_wp2_with fail
    rw [← hW1]
    clear hW1
    refine HSP.out.mono ?_
    rintro e w' ⟨rfl, rfl⟩
    go_wp2_with fail
    refine bodyPost_ret (v := .tuple #[protV ⟨#[]⟩ 0 none 0 0, .bool false]) (by simp [results, Tryz.results29, go_sem, q0, q1, q2, protV]) rfl ?_
    exact ⟨.inr ⟨HN.out, rfl⟩, ((HB2.out.setCell (p := ⟨w.heap.size, 0, none⟩) (Nat.le_refl _) _).setCell (p := ⟨w.heap.size, 1, none⟩) (Nat.le_refl _) _).setCell (p := ⟨w.heap.size, 2, none⟩) (Nat.le_refl _) _⟩
end Go.Proofs.YtbbklideciappaaGreatDoor
