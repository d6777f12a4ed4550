/-
  samaritanref02.Of: the walk.
-/
import Derived.Test.YtalfjcamjdmdjaaDoorRefO
namespace Go.Proofs.YtalfjcamjdmdjaaDoor
open Go.RowKit

theorem refOf_take {zs : List Int} {k : Nat} {z : Int} (h : zs[k]? = some z) : refOf (zs.take (k + 1)) = oStep (refOf (zs.take k)) z := by
  rw [List.take_succ_eq_append_getElem (List.getElem?_eq_some_iff.1 h).1, (List.getElem?_eq_some_iff.1 h).2]
  unfold refOf
  rw [List.foldl_append]
  rfl
theorem ifold_len (n : Int) : ∀ (L acc : List Int), (L.foldl (iStep n) (acc, false)).1.length + (if (L.foldl (iStep n) (acc, false)).2 then 0 else 1) ≤ acc.length + L.length + 1
  | [], acc => by simp
  | x :: L, acc => by
    rw [List.foldl_cons]
    by_cases q : n < x
    · have : iStep n (acc, false) x = (acc ++ [n] ++ [x], true) := by unfold iStep; rw [if_pos ⟨rfl, q⟩]
      rw [this, iStep_put]
      simp
      omega
    · have : iStep n (acc, false) x = (acc ++ [x], false) := by unfold iStep; rw [if_neg (fun h => q h.2)]
      rw [this]
      have := ifold_len n L (acc ++ [x])
      simp only [List.length_append, List.length_cons, List.length_nil] at this ⊢
      omega
theorem ifold_take {n : Int} {L : List Int} {j : Nat} {x : Int} (h : L[j]? = some x) : (L.take (j + 1)).foldl (iStep n) ([], false) = iStep n ((L.take j).foldl (iStep n) ([], false)) x := by
  rw [List.take_succ_eq_append_getElem (List.getElem?_eq_some_iff.1 h).1, (List.getElem?_eq_some_iff.1 h).2, List.foldl_append]
  rfl
theorem ifold_short (n : Int) (L : List Int) : (L.foldl (iStep n) ([], false)).1.length ≤ L.length + 1 := by
  have := ifold_len n L []
  simp only [List.length_nil] at this
  omega
theorem insR_len (n : Int) (L : List Int) : (insR n L).length ≤ L.length + 1 := by
  have := ifold_len n L []
  unfold insR
  split
  · rename_i h
    rw [h] at this
    simpa using this
  · rename_i h
    rw [List.length_append]
    simp only [h] at this
    simpa using this
theorem refOf_len : ∀ (zs L : List Int), (zs.foldl oStep L).length ≤ L.length + zs.length
  | [], L => by simp
  | z :: zs, L => by
    rw [List.foldl_cons]
    have h1 := refOf_len zs (oStep L z)
    have h2 : (oStep L z).length ≤ L.length + 1 := by
      unfold oStep
      split
      · omega
      · exact insR_len z L
    rw [List.length_cons]
    omega
set_option maxRecDepth 100000 in
set_option maxHeartbeats 2000000 in
theorem refOf_any (A : Option Addr) (c : Nat) (zs : List Int) (w : World) (h : Sl w w.heap.size A (zs.map (Value.int .i64))) (hl : zs.length ≤ 1099511) :
    Calls Tryd.prog 12 #[.slice A zs.length c] w (RetI w (refOf zs)) := by
  have HH := Lib.hid h
  obtain ⟨m, hm⟩ : ∃ m, m = zs.length := ⟨_, rfl⟩
  have HM := Lib.hid hm
  rw [← hm] at hl ⊢
  clear h hm
  go_enter Tryd.func12, Tryd.ntmps12
  go_wp2_with fail
  go_loopw [3, 5, 6, 7, 9, 12] (fun v _ _ _ _ iv wr => ∃ k : Nat, k ≤ m ∧ iv = .int .i64 k ∧ OwnI wr w.heap.size 3 v (refOf (zs.take k)) ∧ Below w.heap.size w wr) (fun _ _ _ _ _ i _ => m - (intOf i).toNat)
  case atStart => exact ⟨0, Nat.zero_le _, rfl, OwnV.nil _ _ _, Below.refl _ _⟩
  case round =>
    obtain ⟨k, hk, rfl, hown, hb⟩ := hrel
    have HBR := Lib.hid hb
    by_cases hlt : k < m
    · obtain ⟨z, hz⟩ : ∃ z, zs[k]? = some z := ⟨zs[k]'(by have := HM.out; omega), by simp⟩
      obtain ⟨b, o, rfl, _, q⟩ := (HH.out.below hb).int hz
      have hkj : (k : Int) < (m : Int) := by omega
      have HT := Lib.hid (refOf_take hz)
      have hol : (refOf (zs.take k)).length ≤ k := by
        have := refOf_len (zs.take k) []
        rw [List.length_take] at this
        unfold refOf
        simp only [List.length_nil] at this
        omega
      obtain ⟨out, hout⟩ : ∃ L, L = refOf (zs.take k) := ⟨_, rfl⟩
      rw [← hout] at hown HT hol
      obtain ⟨A1, c1, rfl, hsl⟩ := OwnV.sl hown
      have HHS := Lib.hid (refHas_any A1 c1 out z wr hsl (by omega))
      have HOW := Lib.hid (And.intro hown hsl)
      have hbz := hb.size
      obtain ⟨ol, hln⟩ : ∃ n, n = out.length := ⟨_, rfl⟩
      have HLN := Lib.hid hln
      clear hown hb hz hsl hout
      by_cases z0 : z < 0
      · have HS := Lib.hid (show oStep out z = out from if_pos (.inl z0))
        go_wp2_with fail
        go_roundw
        case rel => exact ⟨k + 1, by omega, by go_num, by rw [HT.out, HS.out]; exact HOW.out.1, HBR.out⟩
        case measure => simp [intOf]; omega
      · by_cases z1 : 4096 ≤ z
        · have HS := Lib.hid (show oStep out z = out from if_pos (.inr (.inl z1)))
          go_wp2_with fail
          go_roundw
          case rel => exact ⟨k + 1, by omega, by go_num, by rw [HT.out, HS.out]; exact HOW.out.1, HBR.out⟩
          case measure => simp [intOf]; omega
        · cases hq : out.contains z
          · have HS := Lib.hid (show oStep out z = insR z out from if_neg (by rintro (h | h | h); exact z0 h; exact z1 h; rw [hq] at h; cases h))
            rw [hq] at HHS
            clear hq
            go_wp2_with fail
            refine HHS.out.mono ?_
            rintro e w2 ⟨rfl, rfl⟩
            go_wp2_with fail
            go_loopw [6, 7, 9, 29] (fun v6 v7 _ iv wr2 => ∃ j : Nat, j ≤ ol ∧ iv = .int .i64 j ∧ v7 = .bool ((out.take j).foldl (iStep z) ([], false)).2 ∧ OwnI wr2 w2.heap.size 3 v6 ((out.take j).foldl (iStep z) ([], false)).1 ∧ Below w2.heap.size w2 wr2) (fun _ _ _ i _ => ol - (intOf i).toNat)
            case atStart => exact ⟨0, Nat.zero_le _, rfl, rfl, OwnV.nil _ _ _, Below.refl _ _⟩
            case round =>
              obtain ⟨j, hj, rfl, rfl, hnx, hb2⟩ := hrel
              have hwz := hb2.size
              have hsh := ifold_short z (out.take j)
              have htl : (out.take j).length ≤ j := List.length_take_le _ _
              by_cases hjl : j < out.length
              · obtain ⟨x, hx⟩ : ∃ x, out[j]? = some x := ⟨out[j]'hjl, by simp⟩
                obtain ⟨b1, p1, rfl, _, q1⟩ := (HOW.out.2.below hb2).int hx
                have HF := Lib.hid (ifold_take (n := z) hx)
                have hjj : (j : Int) < (out.length : Int) := by omega
                obtain ⟨st, hst⟩ : ∃ st, st = (out.take j).foldl (iStep z) ([], false) := ⟨_, rfl⟩
                rw [← hst] at hnx hsh HF ⊢
                obtain ⟨nx, put⟩ := st
                dsimp only at hnx hsh ⊢
                have HNX := Lib.hid hnx
                have HB2 := Lib.hid hb2
                clear hnx hb2 hx hst
                cases put
                · by_cases hzx : z < x
                  · have HI := Lib.hid (show iStep z (nx, false) x = (nx ++ [z] ++ [x], true) from if_pos ⟨rfl, hzx⟩)
                    go_wp2_with (first | (at_builtin; refine wpList_append_int _ rfl _ _ 22 rfl w2.heap.size 3 Tryd.underlying22 int_infoA _ nx wr z rfl rfl HNX.out rfl (by omega) hwz ?_; intro v' w' hown' hgrow') | (at_builtin; refine wpList_append_int _ rfl _ _ 22 rfl w2.heap.size 3 Tryd.underlying22 int_infoA _ (nx ++ [z]) w' x rfl rfl hown' rfl (by rw [List.length_append, List.length_singleton]; omega) (Nat.le_trans hwz hgrow'.size) ?_; intro v2 w3 hown2 hgrow2))
                    go_roundw
                    case rel => exact ⟨j + 1, by omega, by go_num, by rw [HF.out, HI.out], by rw [HF.out, HI.out]; exact hown2, (HB2.out.grown hgrow' HB2.out.size (fun i e => HNX.out.ge_base i e)).grown hgrow2 (Nat.le_trans hwz hgrow'.size) (fun i e => OwnV.ge_base hown' i e)⟩
                    case measure => simp [intOf]; omega
                  · have HI := Lib.hid (show iStep z (nx, false) x = (nx ++ [x], false) from if_neg (fun h => hzx h.2))
                    go_wp2_with (at_builtin; refine wpList_append_int _ rfl _ _ 22 rfl w2.heap.size 3 Tryd.underlying22 int_infoA _ nx wr x rfl rfl HNX.out rfl (by omega) hwz ?_; intro v' w' hown' hgrow')
                    go_roundw
                    case rel => exact ⟨j + 1, by omega, by go_num, by rw [HF.out, HI.out], by rw [HF.out, HI.out]; exact hown', HB2.out.grown hgrow' HB2.out.size (fun i e => HNX.out.ge_base i e)⟩
                    case measure => simp [intOf]; omega
                · have HI := Lib.hid (show iStep z (nx, true) x = (nx ++ [x], true) from if_neg (fun h => by cases h.1))
                  go_wp2_with (at_builtin; refine wpList_append_int _ rfl _ _ 22 rfl w2.heap.size 3 Tryd.underlying22 int_infoA _ nx wr x rfl rfl HNX.out rfl (by omega) hwz ?_; intro v' w' hown' hgrow')
                  go_roundw
                  case rel => exact ⟨j + 1, by omega, by go_num, by rw [HF.out, HI.out], by rw [HF.out, HI.out]; exact hown', HB2.out.grown hgrow' HB2.out.size (fun i e => HNX.out.ge_base i e)⟩
                  case measure => simp [intOf]; omega
              · have hje : j = out.length := by omega
                have HTO := Lib.hid (show out.take j = out by rw [hje, List.take_length])
                obtain ⟨st, hst⟩ : ∃ st, st = (out.take j).foldl (iStep z) ([], false) := ⟨_, rfl⟩
                have HST := Lib.hid (show out.foldl (iStep z) ([], false) = st by rw [hst, HTO.out])
                rw [← hst] at hnx hsh ⊢
                obtain ⟨nx, put⟩ := st
                dsimp only at hnx hsh ⊢
                have HNX := Lib.hid hnx
                have HB2 := Lib.hid (And.intro hb2 (HBR.out.trans (hb2.mono hbz)))
                clear hnx hb2 hst
                subst hje
                cases put
                · have HI := Lib.hid (show insR z out = nx ++ [z] by unfold insR; rw [HST.out]; rfl)
                  go_wp2_with (at_builtin; refine wpList_append_int _ rfl _ _ 22 rfl w2.heap.size 3 Tryd.underlying22 int_infoA _ nx wr z rfl rfl HNX.out rfl (by omega) hwz ?_; intro v' w' hown' hgrow')
                  go_roundw
                  case rel => exact ⟨k + 1, by omega, by go_num, by rw [HT.out, HS.out, HI.out]; exact OwnV.base_le hown' hbz, HB2.out.2.trans (((Below.refl _ _).grown hgrow' hwz (fun i e => HNX.out.ge_base i e)).mono hbz)⟩
                  case measure => simp [intOf]; omega
                · have HI := Lib.hid (show insR z out = nx by unfold insR; rw [HST.out]; rfl)
                  go_wp2_with fail
                  go_roundw
                  case rel => exact ⟨k + 1, by omega, by go_num, by rw [HT.out, HS.out, HI.out]; exact OwnV.base_le HNX.out hbz, HB2.out.2⟩
                  case measure => simp [intOf]; omega
          · have HS := Lib.hid (show oStep out z = out from if_pos (.inr (.inr hq)))
            rw [hq] at HHS
            clear hq
            go_wp2_with fail
            refine HHS.out.mono ?_
            rintro e w2 ⟨rfl, rfl⟩
            go_wp2_with fail
            go_roundw
            case rel => exact ⟨k + 1, by omega, by go_num, by rw [HT.out, HS.out]; exact HOW.out.1, HBR.out⟩
            case measure => simp [intOf]; omega
    · have hkk : k = m := by omega
      subst hkk
      have HOW := Lib.hid hown
      clear hown hb
      go_wp2_with fail
      go_ret
      obtain rfl := HM.out
      exact ⟨_, rfl, by have := HOW.out; rw [List.take_length] at this; exact this, HBR.out⟩
end Go.Proofs.YtalfjcamjdmdjaaDoor
