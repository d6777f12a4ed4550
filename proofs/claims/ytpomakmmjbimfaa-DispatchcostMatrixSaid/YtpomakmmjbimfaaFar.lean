/-
  dispatchcost.farthest and TravelTime.
-/
import Derived.Test.YtpomakmmjbimfaaFrom
namespace Go.Proofs.Ytpomakmmjbimfaa
open Go.RowKit Go.Shelf Go.Maps

/-- one node more. -/
def farStep (D : List Int) (acc : Option Int) (z : Int) : Option Int := acc.bind fun m => if 0 ≤ z ∧ z < D.length then some (max m (D.getD z.toNat 0)) else none
def farK (D zs : List Int) : Option Int := zs.foldl (farStep D) (some 0)
def farL (D zs : List Int) : Int := if zs = [] then 4611686018427387904 else (farK D zs).getD 4611686018427387904
theorem farK_snoc (D zs : List Int) (z : Int) : farK D (zs ++ [z]) = farStep D (farK D zs) z := by simp [farK]
theorem far_none (D zs : List Int) : zs.foldl (farStep D) none = none := by
  induction zs with
  | nil => rfl
  | cons z zs ih => exact ih
theorem farK_none {D zs : List Int} {k : Nat} {z m : Int} (h : farK D (zs.take k) = some m) (hz : zs[k]? = some z) (hn : ¬ (0 ≤ z ∧ z < D.length)) : farK D zs = none := by
  have hl := (List.getElem?_eq_some_iff.1 hz).1
  have e : zs = zs.take k ++ (z :: zs.drop (k + 1)) := by
    rw [← (List.getElem?_eq_some_iff.1 hz).2, ← List.drop_eq_getElem_cons hl, List.take_append_drop]
  rw [e]
  unfold farK at h ⊢
  rw [List.foldl_append, h, List.foldl_cons]
  have : farStep D (some m) z = none := by simp [farStep, hn]
  rw [this]
  exact far_none _ _

set_option maxRecDepth 100000 in
set_option maxHeartbeats 1000000 in
theorem farthest_any (A A2 : Option Addr) (c c2 : Nat) (D zs : List Int) (w : World) (B : Nat) (hs : Sl w B A (D.map (Value.int .i64))) (hss : Sl w B A2 (zs.map (Value.int .i64))) (hzl : zs.length ≤ 16384) :
    Calls Try.prog 26 #[.slice A D.length c, .slice A2 zs.length c2] w fun e w' => e = .returned (.int .i64 (farL D zs)) ∧ w = w' := by
  have HS := Lib.hid hs
  have HSS := Lib.hid hss
  clear hs hss
  go_enter Try.func26, Try.ntmps26
  by_cases h0 : zs.length = 0
  · have d0 : ((zs.length : Int) == 0) = true := beq_iff_eq.2 (by omega)
    have d0' : (zs.length == 0) = true := beq_iff_eq.2 h0
    have H0 := Lib.hid h0
    clear h0
    go_wp2_with fail
    go_ret
    refine ⟨?_, rfl⟩
    rw [farL, if_pos (List.length_eq_zero_iff.1 H0.out)]
    rfl
  · have d0 : ((zs.length : Int) == 0) = false := beq_eq_false_iff_ne.2 (by omega)
    have d0' : (zs.length == 0) = false := beq_eq_false_iff_ne.2 h0
    have HNE : Hid (zs ≠ []) := Lib.hid (fun e => h0 (by rw [e]; rfl))
    clear h0
    go_wp2_with fail
    go_loopw [5, 13] (fun mv iv wr => ∃ (k : Nat) (m : Int), k ≤ zs.length ∧ iv = .int .i64 k ∧ mv = .int .i64 m ∧ wr = w ∧ farK D (zs.take k) = some m) (fun _ i _ => zs.length - (intOf i).toNat)
    case atStart => exact ⟨0, 0, Nat.zero_le _, rfl, rfl, rfl, rfl⟩
    case round =>
      obtain ⟨k, m, hk, rfl, rfl, rfl, hm⟩ := hrel
      have HM := Lib.hid hm
      clear hm
      by_cases hlt : k < zs.length
      · obtain ⟨z, hz⟩ : ∃ z, zs[k]? = some z := ⟨zs[k], by simp⟩
        obtain ⟨b, o, rfl, hb, hc⟩ := HSS.out.int hz
        have HZ := Lib.hid hz
        have HTK : Hid (zs.take (k + 1) = zs.take k ++ [z]) := Lib.hid (by
          have hl := (List.getElem?_eq_some_iff.1 hz).1
          rw [List.take_succ_eq_append_getElem hl, (List.getElem?_eq_some_iff.1 hz).2])
        clear hz
        by_cases hnode : 0 ≤ z ∧ z < D.length
        · obtain ⟨t, rfl⟩ : ∃ t : Nat, z = (t : Int) := ⟨z.toNat, by omega⟩
          have htn : t < D.length := by omega
          have htj : (t : Int) < (D.length : Int) := by omega
          have e1 : decide ((t : Int) < 0) = false := decide_eq_false (by omega)
          have e2 : decide ((D.length : Int) ≤ (t : Int)) = false := decide_eq_false (by omega)
          have e2' : decide (D.length ≤ t) = false := decide_eq_false (by omega)
          obtain ⟨dt, hdt⟩ : ∃ dt, D[t]? = some dt := ⟨D[t], by simp⟩
          obtain ⟨b2, o2, rfl, hb2, hc2⟩ := HS.out.int hdt
          have HD := Lib.hid hdt
          clear hdt hnode
          go_wp2_with fail
          go_roundw
          case rel =>
            refine ⟨k + 1, max m dt, by omega, by go_num, by congr 1; split <;> omega, trivial, ?_⟩
            rw [HTK.out, farK_snoc, HM.out]
            have hg : D.getD (t : Int).toNat 0 = dt := by rw [Int.toNat_natCast, List.getD_eq_getElem?_getD, HD.out]; rfl
            show (if 0 ≤ (t : Int) ∧ (t : Int) < D.length then some (max m (D.getD (t : Int).toNat 0)) else none) = some (max m dt)
            rw [hg, if_pos (by omega)]
          case measure => simp [intOf]; omega
        · have HN := Lib.hid hnode
          by_cases hz0 : z < 0
          · have e1 : decide (z < 0) = true := decide_eq_true hz0
            clear hnode hz0
            go_wp2_with fail
            go_ret
            refine ⟨?_, rfl⟩
            rw [farL, if_neg HNE.out, farK_none HM.out HZ.out HN.out]
            rfl
          · have e1 : decide (z < 0) = false := decide_eq_false hz0
            have e2 : decide ((D.length : Int) ≤ z) = true := decide_eq_true (by omega)
            clear hnode hz0
            go_wp2_with fail
            go_ret
            refine ⟨?_, rfl⟩
            rw [farL, if_neg HNE.out, farK_none HM.out HZ.out HN.out]
            rfl
      · have hkk : zs.length = k := by omega
        subst hkk
        go_wp2_with fail
        go_ret
        refine ⟨?_, rfl⟩
        have := HM.out
        rw [List.take_length] at this
        rw [farL, if_neg HNE.out, this]
        rfl
end Go.Proofs.Ytpomakmmjbimfaa
