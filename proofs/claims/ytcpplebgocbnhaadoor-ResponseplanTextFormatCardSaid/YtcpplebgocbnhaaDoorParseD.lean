/-
  The clock: what ParseDuration computes: the duration whose text it is, or ErrSyntax.
-/
import Derived.Test.YtcpplebgocbnhaaDoorComp
namespace Go.Proofs.YtcpplebgocbnhaaDoor
open Go.RowKit Go.Maps

def sumFrom : Int → List (List UInt8) → Option Int
  | d, [] => some d
  | d, p :: r => if (compOf p).2 = true then sumFrom (plus d (compOf p).1) r else none
def durOf (l : List UInt8) (L : List (List UInt8)) : Int × Int :=
  match (if L.length ≤ 3 then sumFrom 0 L else none) with
  | some d => if span d = l then (d, 0) else (0, 2)
  | none => (0, 2)

theorem split_small (sep : ByteArray) : ∀ (k : Nat) (s : ByteArray), ∀ x ∈ Lib.splitB sep 0 k s, x.size ≤ s.size
  | 0, s, x, hx => by
    rcases List.mem_singleton.1 hx with rfl
    exact Nat.le_refl _
  | k + 1, s, x, hx => by
    unfold Lib.splitB at hx
    split at hx
    · rcases List.mem_singleton.1 hx with rfl
      exact Nat.le_refl _
    · rcases List.mem_cons.1 hx with rfl | hx
      · rw [ByteArray.size_extract]
        omega
      · have := split_small sep k _ x hx
        rw [ByteArray.size_extract] at this
        omega

theorem cells_at {L : List ByteArray} {N k : Nat} {p : ByteArray} (h : L[k]? = some p) : (Lib.cellsOf L N)[k]? = some (.string p) := by
  have hk := (List.getElem?_eq_some_iff.1 h).1
  unfold Lib.cellsOf
  rw [List.getElem?_toArray, List.getElem?_append_left (by simpa using hk), List.getElem?_map, h]
  rfl

def four (s : ByteArray) : List ByteArray := Lib.splitB ⟨#[32]⟩ 0 (min 4 (s.size + 1) - 1) s

theorem four_any (s : ByteArray) (hs : s.size ≤ 1099511627) (w : World) (hr : Ready w) :
    Calls Tryd.prog 42 #[.string s, .string ⟨#[32]⟩, .int .i64 4] w fun e w' =>
      ∃ N, e = .returned (.slice (some ⟨w.heap.size, 0, none⟩) (four s).length N) ∧ (four s).length ≤ N ∧ w' = w.alloc (.cells (Lib.cellsOf (four s) N) 9) := by
  obtain ⟨m, hm⟩ := hr.most
  refine (Tryd.strings_SplitN s ⟨#[32]⟩ 4 m w (by omega) hm (by decide) (by omega) (by omega)).mono ?_
  rintro e w' ⟨rfl, rfl⟩
  refine ⟨_, rfl, ?_, rfl⟩
  have := Lib.splitB_length_le ⟨#[32]⟩ 0 (min 4 (s.size + 1) - 1) s
  unfold four
  omega

set_option maxRecDepth 100000 in
set_option maxHeartbeats 2000000 in
theorem parseD_walk (s : ByteArray) (hs : s.size ≤ 1099511627) (hn : (s.toList == [110, 101, 118, 101, 114]) = false) (w : World) (hr : Ready w) :
    Calls Tryd.prog 22 #[.string s] w fun e w' => e = .returned (.tuple #[.int .i64 (durOf s.data.toList ((four s).map (·.data.toList))).1, .int .i64 (durOf s.data.toList ((four s).map (·.data.toList))).2]) ∧ Below w.heap.size w w' := by
  go_enter Tryd.func22, Tryd.ntmps22
  go_wp2_with fail
  refine (four_any s hs w hr).mono ?_
  have hsm := split_small ⟨#[32]⟩ (min 4 (s.size + 1) - 1) s
  have hsm2 : ∀ x ∈ four s, x.size ≤ s.size := hsm
  clear hsm
  obtain ⟨L, hL⟩ : ∃ L, L = four s := ⟨_, rfl⟩
  rw [← hL] at hsm2 ⊢
  have HL := Lib.hid hL
  clear hL
  rintro e w1 ⟨N, rfl, hN, hw1⟩
  have hb0 : Below w.heap.size w w1 := by rw [hw1]; exact (Below.refl _ _).alloc (Nat.le_refl _) _
  have hr1 := hr.below hb0
  have hcell : ∀ (k : Nat) p, L[k]? = some p → w1.cell? ⟨w.heap.size, k, none⟩ = some (.string p) := by
    intro k p hp
    rw [hw1]
    have h1 := cells_at (N := N) hp
    have h2 : (w.alloc (Obj.cells (Lib.cellsOf L N) 9)).heap[w.heap.size]? = some (Obj.cells (Lib.cellsOf L N) 9) := by
      show (w.heap.push _)[w.heap.size]? = _
      simp
    unfold World.cell?
    simp only [h2, h1]
    rfl
  have hsz : w.heap.size < w1.heap.size := by rw [hw1]; simp
  have HW := Lib.hid hb0
  have HCE := Lib.hid hcell
  clear hw1 hb0 hcell
  by_cases h3 : L.length ≤ 3
  · have h3' : ¬ (3 : Int) < (L.length : Int) := by omega
    go_wp2_with fail
    go_loopw [5, 19] (fun dv i wr => ∃ (k : Nat) (d : Int), k ≤ L.length ∧ i = .int .i64 k ∧ dv = .int .i64 d ∧ Time d ∧ sumFrom 0 (L.map (·.data.toList)) = sumFrom d ((L.map (·.data.toList)).drop k) ∧ Ready wr ∧ Below w1.heap.size w1 wr) (fun _ i _ => L.length - (intOf i).toNat)
    case atStart => exact ⟨0, 0, by omega, rfl, rfl, by unfold Time; omega, rfl, hr1, Below.refl _ _⟩
    case round =>
      obtain ⟨k, d, hk, rfl, rfl, hd, hsum, hrr, hbr⟩ := hrel
      have HS := Lib.hid hsum
      clear hsum
      by_cases hlt : k < L.length
      · obtain ⟨p, hp⟩ : ∃ p, L[k]? = some p := ⟨L[k], by simp⟩
        have hps := hsm2 p (List.mem_of_getElem? hp)
        have hce : wr.cell? ⟨w.heap.size, k, none⟩ = some (.string p) := by
          exact (hbr.cell (p := ⟨w.heap.size, k, none⟩) hsz).trans (HCE.out k p hp)
        have hdr : (L.map (·.data.toList)).drop k = p.data.toList :: (L.map (·.data.toList)).drop (k + 1) := by
          have e : (L.map (·.data.toList))[k]? = some p.data.toList := by rw [List.getElem?_map, hp]; rfl
          have hlt2 := (List.getElem?_eq_some_iff.1 e).1
          rw [List.drop_eq_getElem_cons hlt2, (List.getElem?_eq_some_iff.1 e).2]
        have HDR := Lib.hid hdr
        have HBR := Lib.hid hbr
        clear hdr hbr hp
        go_wp2_with fail
        refine (comp_any p (by omega) wr hrr).mono ?_
        obtain ⟨⟨v, f⟩, hf⟩ : ∃ c, compOf p.data.toList = c := ⟨_, rfl⟩
        rw [hf]
        have HF := Lib.hid hf
        clear hf
        simp only
        rintro e w2 ⟨rfl, hb2⟩
        have hr2 := hrr.below hb2
        have HB2 : Hid (Below w1.heap.size w1 w2) := Lib.hid (below_then HBR.out hb2)
        clear hb2 HBR
        cases f with
        | false =>
          go_wp2_with fail
          go_ret2
          refine ⟨?_, below_then HW.out HB2.out⟩
          have e : sumFrom 0 (L.map (·.data.toList)) = none := by
            rw [HS.out, HDR.out, sumFrom, HF.out]
            rfl
          rw [← HL.out, durOf, if_pos (by rw [List.length_map]; exact h3), e]
          rfl
        | true =>
          go_wp2_with fail
          refine (add_any _ _ _).mono ?_
          rintro e w4 ⟨rfl, rfl⟩
          have hpl := plus_time d v
          go_wp2_with fail
          go_roundw
          case rel =>
            refine ⟨k + 1, plus d v, by omega, by go_num, rfl, hpl, ?_, hr2, HB2.out⟩
            rw [HS.out, HDR.out, sumFrom, HF.out]
            rfl
          case measure => simp [intOf]; omega
      · have hkk : k = L.length := by omega
        subst hkk
        have HBR := Lib.hid hbr
        clear hbr
        have hse : sumFrom 0 (L.map (·.data.toList)) = some d := by
          rw [HS.out, List.drop_eq_nil_of_le (by simp)]
          rfl
        have HSE := Lib.hid hse
        clear hse
        go_wp2_with fail
        refine (formatDuration_any d wr hrr).mono ?_
        rintro e w5 ⟨rfl, hb5⟩
        rw [hold_time hd]
        have HB5 := Lib.hid (below_then HW.out (below_then HBR.out hb5))
        clear hb5 HBR
        by_cases hq : span d = s.data.toList
        · have hq2 : ((bs (span d)).toList == s.toList) = true := by
            rw [toL_bs, toL, hq]
            simp
          have hq3 : ((bs (span d)).toList != s.toList) = false := by rw [bne, hq2]; rfl
          have HQ := Lib.hid hq
          clear hq
          go_wp2_with fail
          go_ret2
          refine ⟨?_, HB5.out⟩
          rw [← HL.out, durOf, if_pos (by rw [List.length_map]; exact h3), HSE.out]
          simp only
          rw [if_pos HQ.out]
          rfl
        · have hq2 : ((bs (span d)).toList == s.toList) = false := by
            rw [toL_bs, toL, beq_eq_false_iff_ne]
            exact hq
          have hq3 : ((bs (span d)).toList != s.toList) = true := by rw [bne, hq2]; rfl
          have HQ := Lib.hid hq
          clear hq
          go_wp2_with fail
          go_ret2
          refine ⟨?_, HB5.out⟩
          rw [← HL.out, durOf, if_pos (by rw [List.length_map]; exact h3), HSE.out]
          simp only
          rw [if_neg HQ.out]
          rfl
  · have h3' : (3 : Int) < (L.length : Int) := by omega
    go_wp2_with fail
    go_ret2
    refine ⟨?_, HW.out⟩
    rw [← HL.out, durOf, if_neg (by rw [List.length_map]; exact h3)]
    rfl
end Go.Proofs.YtcpplebgocbnhaaDoor
