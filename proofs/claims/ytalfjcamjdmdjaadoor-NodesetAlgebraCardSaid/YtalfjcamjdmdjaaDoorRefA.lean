/-
  samaritanref02: Has, And, Less, Same.
-/
import Derived.Test.YtalfjcamjdmdjaaDoorSet
import Derived.BigQuiet
namespace Go.Proofs.YtalfjcamjdmdjaaDoor
open Go.RowKit

set_option maxHeartbeats 1000000 in
theorem refHas_any (A : Option Addr) (c : Nat) (zs : List Int) (n : Int) (w : World) (h : Sl w w.heap.size A (zs.map (Value.int .i64))) (hl : zs.length ≤ 1099511627) :
    Calls Tryd.prog 25 #[.slice A zs.length c, .int .i64 n] w fun e w' => e = .returned (.bool (zs.contains n)) ∧ w' = w := by
  have HH := Lib.hid h
  obtain ⟨m, hm⟩ : ∃ m, m = zs.length := ⟨_, rfl⟩
  have HM := Lib.hid hm
  rw [← hm] at hl ⊢
  clear h hm
  go_enter Tryd.func25, Tryd.ntmps25
  go_wp2_with fail
  go_loopw [6, 9] (fun _ iv wr => ∃ k : Nat, k ≤ m ∧ iv = .int .i64 k ∧ wr = w ∧ (zs.take k).contains n = false) (fun _ i _ => m - (intOf i).toNat)
  case atStart => exact ⟨0, Nat.zero_le _, rfl, rfl, rfl⟩
  case round =>
    obtain ⟨k, hk, rfl, rfl, hc⟩ := hrel
    have HC := Lib.hid hc
    clear hc
    by_cases hlt : k < m
    · obtain ⟨z, hz⟩ : ∃ z, zs[k]? = some z := ⟨zs[k]'(by have := HM.out; omega), by simp⟩
      obtain ⟨b, o, rfl, _, q⟩ := HH.out.int hz
      have hkj : (k : Int) < (m : Int) := by omega
      have HZ := Lib.hid hz
      clear hz
      by_cases he : z = n
      · subst he
        go_wp2_with fail
        go_ret
        exact ⟨ret_bool (by rw [List.contains_iff_mem.2 (List.mem_of_getElem? HZ.out)]), rfl⟩
      · go_wp2_with fail
        go_roundw
        case rel =>
          refine ⟨k + 1, by omega, by go_num, trivial, ?_⟩
          rw [List.take_succ_eq_append_getElem (List.getElem?_eq_some_iff.1 HZ.out).1, (List.getElem?_eq_some_iff.1 HZ.out).2, List.contains_append, HC.out]
          simp
          exact fun e => he e.symm
        case measure => simp [intOf]; omega
    · have hkk : k = m := by omega
      subst hkk
      go_wp2_with fail
      go_ret
      exact ⟨ret_bool (by have := HC.out; rw [HM.out, List.take_length] at this; exact this.symm), rfl⟩
/-- an answer that is a list of the call's own. -/
def RetI (w : World) (L : List Int) (e : Ending) (w' : World) : Prop := ∃ v, e = .returned v ∧ OwnI w' w.heap.size 3 v L ∧ Below w.heap.size w w'
theorem int_infoA : (Tryd.prog.info? 3).map (fun i => (i.zero, i.size, i.bytes)) = some (some (.int .i64 0), 1, 8) := by kernel_rfl

set_option maxRecDepth 100000 in
set_option maxHeartbeats 1000000 in
theorem refAnd_any (A A' : Option Addr) (c c' : Nat) (xs ys : List Int) (w : World) (h : Sl w w.heap.size A (xs.map (Value.int .i64))) (h' : Sl w w.heap.size A' (ys.map (Value.int .i64))) (hl : xs.length ≤ 1099511627) (hl' : ys.length ≤ 1099511627) :
    Calls Tryd.prog 32 #[.slice A xs.length c, .slice A' ys.length c'] w (RetI w (xs.filter (fun x => ys.contains x))) := by
  have HH := Lib.hid (And.intro h h')
  have HAS := Lib.hid (fun (X : World) (n : Int) (hX : Sl X X.heap.size A' (ys.map (Value.int .i64))) => refHas_any A' c' ys n X hX hl')
  obtain ⟨m, hm⟩ : ∃ m, m = xs.length := ⟨_, rfl⟩
  have HM := Lib.hid hm
  have hxm : xs.length ≤ m := by omega
  rw [← hm] at hl ⊢
  clear h h' hm
  go_enter Tryd.func32, Tryd.ntmps32
  go_wp2_with fail
  go_loopw [5, 7, 10] (fun v _ iv wr => ∃ k : Nat, k ≤ m ∧ iv = .int .i64 k ∧ OwnI wr w.heap.size 3 v ((xs.take k).filter (fun x => ys.contains x)) ∧ Below w.heap.size w wr) (fun _ _ i _ => m - (intOf i).toNat)
  case atStart => exact ⟨0, Nat.zero_le _, rfl, OwnV.nil _ _ _, Below.refl _ _⟩
  case round =>
    obtain ⟨k, hk, rfl, hown, hb⟩ := hrel
    have HOW := Lib.hid hown
    have HBR := Lib.hid hb
    by_cases hlt : k < m
    · obtain ⟨z, hz⟩ : ∃ z, xs[k]? = some z := ⟨xs[k]'(by have := HM.out; omega), by simp⟩
      obtain ⟨b, o, rfl, _, q⟩ := (HH.out.1.below hb).int hz
      have hkj : (k : Int) < (m : Int) := by omega
      have HTK := Lib.hid (show (xs.take (k + 1)).filter (fun x => ys.contains x) = (xs.take k).filter (fun x => ys.contains x) ++ [z].filter (fun x => ys.contains x) from by
        rw [List.take_succ_eq_append_getElem (List.getElem?_eq_some_iff.1 hz).1, (List.getElem?_eq_some_iff.1 hz).2, List.filter_append])
      have hlen : ((xs.take k).filter (fun x => ys.contains x)).length ≤ 1099511627 := Nat.le_trans (List.length_filter_le _ _) (by rw [List.length_take]; omega)
      have HHS := Lib.hid (HAS.out wr z ((HH.out.2.below hb).more hb.size))
      have hbz := hb.size
      clear hown hb hz
      cases hq : ys.contains z
      · have HS := Lib.hid (show (xs.take (k + 1)).filter (fun x => ys.contains x) = (xs.take k).filter (fun x => ys.contains x) by rw [HTK.out]; simp only [List.filter_cons, hq, List.filter_nil]; simp)
        rw [hq] at HHS
        obtain ⟨fl, hfl⟩ : ∃ l, l = (xs.take k).filter (fun x => ys.contains x) := ⟨_, rfl⟩
        rw [← hfl] at HOW HS hlen
        clear hq hfl
        go_wp2_with fail
        refine HHS.out.mono ?_
        rintro e w2 ⟨rfl, rfl⟩
        go_wp2_with fail
        go_roundw
        case rel => exact ⟨k + 1, by omega, by go_num, by rw [HS.out]; exact HOW.out, HBR.out⟩
        case measure => simp [intOf]; omega
      · have HS := Lib.hid (show (xs.take (k + 1)).filter (fun x => ys.contains x) = (xs.take k).filter (fun x => ys.contains x) ++ [z] by rw [HTK.out]; simp only [List.filter_cons, hq, List.filter_nil]; simp)
        rw [hq] at HHS
        obtain ⟨fl, hfl⟩ : ∃ l, l = (xs.take k).filter (fun x => ys.contains x) := ⟨_, rfl⟩
        rw [← hfl] at HOW HS hlen
        clear hq hfl
        go_wp2_with fail
        refine HHS.out.mono ?_
        rintro e w2 ⟨rfl, rfl⟩
        go_wp2_with (at_builtin; refine wpList_append_int _ rfl _ _ 22 rfl w.heap.size 3 Tryd.underlying22 int_infoA _ fl w2 z rfl rfl HOW.out rfl (by omega) hbz ?_; intro v' w' hown' hgrow')
        go_roundw
        case rel =>
          refine ⟨k + 1, by omega, by go_num, ?_, HBR.out.grown hgrow' HBR.out.size (fun j e => HOW.out.ge_base j e)⟩
          rw [HS.out]
          exact hown'
        case measure => simp [intOf]; omega
    · have hkk : k = m := by omega
      subst hkk
      clear hown hb
      go_wp2_with fail
      go_ret
      obtain rfl := HM.out
      exact ⟨_, rfl, by have := HOW.out; rw [List.take_length] at this; exact this, HBR.out⟩

set_option maxRecDepth 100000 in
set_option maxHeartbeats 1000000 in
theorem refLess_any (A A' : Option Addr) (c c' : Nat) (xs ys : List Int) (w : World) (h : Sl w w.heap.size A (xs.map (Value.int .i64))) (h' : Sl w w.heap.size A' (ys.map (Value.int .i64))) (hl : xs.length ≤ 1099511627) (hl' : ys.length ≤ 1099511627) :
    Calls Tryd.prog 33 #[.slice A xs.length c, .slice A' ys.length c'] w (RetI w (xs.filter (fun x => !ys.contains x))) := by
  have HH := Lib.hid (And.intro h h')
  have HAS := Lib.hid (fun (X : World) (n : Int) (hX : Sl X X.heap.size A' (ys.map (Value.int .i64))) => refHas_any A' c' ys n X hX hl')
  obtain ⟨m, hm⟩ : ∃ m, m = xs.length := ⟨_, rfl⟩
  have HM := Lib.hid hm
  have hxm : xs.length ≤ m := by omega
  rw [← hm] at hl ⊢
  clear h h' hm
  go_enter Tryd.func33, Tryd.ntmps33
  go_wp2_with fail
  go_loopw [5, 7, 10] (fun v _ iv wr => ∃ k : Nat, k ≤ m ∧ iv = .int .i64 k ∧ OwnI wr w.heap.size 3 v ((xs.take k).filter (fun x => !ys.contains x)) ∧ Below w.heap.size w wr) (fun _ _ i _ => m - (intOf i).toNat)
  case atStart => exact ⟨0, Nat.zero_le _, rfl, OwnV.nil _ _ _, Below.refl _ _⟩
  case round =>
    obtain ⟨k, hk, rfl, hown, hb⟩ := hrel
    have HOW := Lib.hid hown
    have HBR := Lib.hid hb
    by_cases hlt : k < m
    · obtain ⟨z, hz⟩ : ∃ z, xs[k]? = some z := ⟨xs[k]'(by have := HM.out; omega), by simp⟩
      obtain ⟨b, o, rfl, _, q⟩ := (HH.out.1.below hb).int hz
      have hkj : (k : Int) < (m : Int) := by omega
      have HTK := Lib.hid (show (xs.take (k + 1)).filter (fun x => !ys.contains x) = (xs.take k).filter (fun x => !ys.contains x) ++ [z].filter (fun x => !ys.contains x) from by
        rw [List.take_succ_eq_append_getElem (List.getElem?_eq_some_iff.1 hz).1, (List.getElem?_eq_some_iff.1 hz).2, List.filter_append])
      have hlen : ((xs.take k).filter (fun x => !ys.contains x)).length ≤ 1099511627 := Nat.le_trans (List.length_filter_le _ _) (by rw [List.length_take]; omega)
      have HHS := Lib.hid (HAS.out wr z ((HH.out.2.below hb).more hb.size))
      have hbz := hb.size
      clear hown hb hz
      cases hq : ys.contains z
      · have HS := Lib.hid (show (xs.take (k + 1)).filter (fun x => !ys.contains x) = (xs.take k).filter (fun x => !ys.contains x) ++ [z] by rw [HTK.out]; simp only [List.filter_cons, hq, List.filter_nil]; simp)
        rw [hq] at HHS
        obtain ⟨fl, hfl⟩ : ∃ l, l = (xs.take k).filter (fun x => !ys.contains x) := ⟨_, rfl⟩
        rw [← hfl] at HOW HS hlen
        clear hq hfl
        go_wp2_with fail
        refine HHS.out.mono ?_
        rintro e w2 ⟨rfl, rfl⟩
        go_wp2_with (at_builtin; refine wpList_append_int _ rfl _ _ 22 rfl w.heap.size 3 Tryd.underlying22 int_infoA _ fl w2 z rfl rfl HOW.out rfl (by omega) hbz ?_; intro v' w' hown' hgrow')
        go_roundw
        case rel =>
          refine ⟨k + 1, by omega, by go_num, ?_, HBR.out.grown hgrow' HBR.out.size (fun j e => HOW.out.ge_base j e)⟩
          rw [HS.out]
          exact hown'
        case measure => simp [intOf]; omega
      · have HS := Lib.hid (show (xs.take (k + 1)).filter (fun x => !ys.contains x) = (xs.take k).filter (fun x => !ys.contains x) by rw [HTK.out]; simp only [List.filter_cons, hq, List.filter_nil]; simp)
        rw [hq] at HHS
        obtain ⟨fl, hfl⟩ : ∃ l, l = (xs.take k).filter (fun x => !ys.contains x) := ⟨_, rfl⟩
        rw [← hfl] at HOW HS hlen
        clear hq hfl
        go_wp2_with fail
        refine HHS.out.mono ?_
        rintro e w2 ⟨rfl, rfl⟩
        go_wp2_with fail
        go_roundw
        case rel => exact ⟨k + 1, by omega, by go_num, by rw [HS.out]; exact HOW.out, HBR.out⟩
        case measure => simp [intOf]; omega
    · have hkk : k = m := by omega
      subst hkk
      clear hown hb
      go_wp2_with fail
      go_ret
      obtain rfl := HM.out
      exact ⟨_, rfl, by have := HOW.out; rw [List.take_length] at this; exact this, HBR.out⟩
end Go.Proofs.YtalfjcamjdmdjaaDoor
