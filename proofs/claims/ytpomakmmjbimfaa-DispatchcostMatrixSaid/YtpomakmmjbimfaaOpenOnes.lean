/-
  dispatchcost.openOnes: the open incidents in the order in which they are served.
-/
import Derived.Test.YtpomakmmjbimfaaIns
namespace Go.Proofs.Ytpomakmmjbimfaa
open Go.RowKit Go.Maps

def RetIncs (w : World) (xs : List IncT) (e : Ending) (w' : World) : Prop := ∃ v, e = .returned v ∧ OwnInc w' w.heap.size 65 v xs ∧ Below w.heap.size w w'

set_option maxRecDepth 100000 in
set_option maxHeartbeats 2000000 in
theorem openOnes_any (A : Option Addr) (c : Nat) (xs : List IncT) (w : World) (hi : IncsAt w w.heap.size A xs) (hl : xs.length ≤ 19) :
    Calls Try.prog 34 #[.slice A xs.length c] w (RetIncs w (sortK (xs.filter openI))) := by
  have HI := Lib.hid hi
  clear hi
  go_enter Try.func34, Try.ntmps34
  go_wp2_with fail
  go_loopw [3, 8] (fun v i wr => ∃ k : Nat, k ≤ xs.length ∧ i = .int .i64 k ∧ OwnInc wr w.heap.size 65 v ((xs.take k).filter openI) ∧ Below w.heap.size w wr) (fun _ i _ => xs.length - (intOf i).toNat)
  case atStart => exact ⟨0, Nat.zero_le _, rfl, OwnR.nil _ _ _, Below.refl _ _⟩
  case round =>
    obtain ⟨k, hk, rfl, hown, hb⟩ := hrel
    have hmb := hb.size
    have hfl : ((xs.take k).filter openI).length ≤ k := Nat.le_trans (List.length_filter_le _ _) (List.length_take_le _ _)
    by_cases hlt : k < xs.length
    · obtain ⟨x, hx⟩ : ∃ x, xs[k]? = some x := ⟨xs[k], by simp⟩
      obtain ⟨bu, ou, rfl, hbu, c0, c1, c2, c3, c4, c5, c6, c7, c8, c9⟩ := inc_at (HI.out.below hb) hx
      have HT : Hid ((xs.take (k + 1)).filter openI = (xs.take k).filter openI ++ if openI x = true then [x] else []) := Lib.hid (by
        rw [take_snoc' hx, List.filter_append]
        congr 1
        cases h : openI x <;> simp [h])
      have HBA := Lib.hid (hb.alloc hmb (objI x))
      replace hown := hown.alloc (objI x)
      clear hx hb
      by_cases h1 : x.closed = true
      · have HF : Hid (openI x = false) := Lib.hid (by simp [openI, h1])
        go_wp2_with fail
        go_roundw
        case rel =>
          have hq := HBA.out
          rw [objI, h1] at hq hown
          refine ⟨k + 1, by omega, by go_num, ?_, hq⟩
          rw [HT.out, HF.out]
          simpa using hown
        case measure => simp [intOf]; omega
      · have h1' : x.closed = false := by simpa using h1
        clear h1
        by_cases h2 : x.merged = 0
        · have d2 : (x.merged == 0) = true := by simp [h2]
          have HF : Hid (openI x = true) := Lib.hid (by simp [openI, h1', h2])
          clear h2
          go_wp2_with (at_builtin; refine wpList_append_rec _ rfl _ _ 54 rfl w.heap.size 65 Try.underlying54 inc_info rfl (by omega) (by omega) cellsI_len _ _ (wr.alloc (objI x)) x (cellsI_one _) #[.int .i64 x.id, .int .i64 x.urg, .string x.code, .slice x.nA x.nodes.length x.nc, .int .i64 x.dist, .int .i64 x.since, .slice x.cA x.cl x.cc, .slice x.uA x.ul x.uc, .int .i64 x.merged, .bool false] (by rw [← h1']; rfl) (by rw [objI, h1']) rfl hown _ rfl (by simp) (by omega) (by simp; omega) ?_; intro v1 w1 hown1 hg1)
          go_roundw
          case rel =>
            refine ⟨k + 1, by omega, by go_num, ?_, HBA.out.grown hg1 HBA.out.size (fun j hj => hown.ge_base _ hj)⟩
            rw [HT.out, HF.out, if_pos rfl]
            exact hown1
          case measure => simp [intOf]; omega
        · have d2 : (x.merged == 0) = false := by simp [h2]
          have HF : Hid (openI x = false) := Lib.hid (by simp [openI, h2])
          clear h2
          go_wp2_with fail
          go_roundw
          case rel =>
            refine ⟨k + 1, by omega, by go_num, ?_, ?_⟩
            · rw [HT.out, HF.out]
              have : OwnInc (wr.alloc (objI x)) w.heap.size 65 u3 ((xs.take k).filter openI ++ if false = true then [x] else []) := by simpa using hown
              rw [objI, h1'] at this
              exact this
            · have := HBA.out
              rw [objI, h1'] at this
              exact this
          case measure => simp [intOf]; omega
    · have hkk : k = xs.length := by omega
      subst hkk
      rw [List.take_length] at hown hfl
      have hst := sortStable_any u3 w.heap.size (xs.filter openI) wr hown (by omega)
      have HST := Lib.hid hst
      have HGE := Lib.hid hown.ge_base
      have HB := Lib.hid hb
      obtain ⟨A3, c3, rfl, _⟩ := hown.sl
      clear hown hst hb
      go_wp2_with fail
      ((with_reducible refine HST.out.mono ?_))
      rintro e w1 ⟨rfl, h1, h2⟩
      have H1 := Lib.hid h1
      have HB2 : Hid (Below w.heap.size w w1) := Lib.hid (HB.out.trans (h2.below HB.out.size (fun j hj => HGE.out j hj)))
      clear h1 h2 HST
      go_wp2_with fail
      go_ret
      exact ⟨_, rfl, H1.out, HB2.out⟩
end Go.Proofs.Ytpomakmmjbimfaa
