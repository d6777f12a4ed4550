/-
  The reference's change: the walk.
-/
import Derived.Test.YtppbmnlneoinhaaDoorRefWord
namespace Go.Proofs.YtppbmnlneoinhaaDoor
open Go.RowKit Go.Maps

theorem strC_info : (Tryd.prog.info? 9).map (fun i => (i.zero, i.size, i.bytes)) = some (some (.string ByteArray.empty), 1, 16) := by kernel_rfl
/-- what change returns. -/
def RetChange (l : List UInt8) (w : World) (e : Ending) (w' : World) : Prop :=
  e = .returned (.tuple #[.agg #[.int .i64 (chgR l).1.tick, .int .i64 (chgR l).1.edge, .int .i64 (chgR l).1.time], .bool (chgR l).2]) ∧ Below w.heap.size w w'
theorem chgR_three {l x y z : List UInt8} (h : cutsFrom [] l = [x, y, z]) : chgR l = (⟨numR x, numR y, if z = [99, 108, 111, 115, 101, 100] then 4611686018427387904 else numR z⟩, decide (0 ≤ numR x) && decide (0 ≤ numR y) && decide (0 ≤ (if z = [99, 108, 111, 115, 101, 100] then 4611686018427387904 else numR z))) := by
  unfold chgR
  rw [h]
theorem chgR_not {l : List UInt8} (h : (cutsFrom [] l).length ≠ 3) : chgR l = (⟨0, 0, 0⟩, false) := by
  unfold chgR
  split
  · rename_i q
    rw [q] at h
    exact absurd rfl h
  · rfl
set_option maxRecDepth 100000 in
set_option maxHeartbeats 2000000 in
theorem change_any (s : ByteArray) (hs : s.size ≤ 1099511627) (w : World) :
    Calls Tryd.prog 31 #[.string s] w (RetChange s.data.toList w) := by
  obtain ⟨rb, hrb⟩ : ∃ rb, rb = w.heap.size := ⟨_, rfl⟩
  obtain ⟨W, hW⟩ : ∃ W, W = w.alloc (.cells #[.int .i64 0, .int .i64 0, .int .i64 0] 57) := ⟨_, rfl⟩
  have hB0 : Below w.heap.size w W := by rw [hW]; exact (Below.refl w.heap.size w).alloc (Nat.le_refl _) _
  have hz : rb < W.heap.size := by rw [hW, hrb]; simp
  have hk : ∀ j, W.cell? ⟨rb, j, none⟩ = (#[.int .i64 0, .int .i64 0, .int .i64 0] : Array Value)[j]? := fun j => by rw [hW, World.cell?_alloc_at (hn := hrb)]
  have hf : ∀ j, W.frozen? ⟨rb, j, none⟩ = false := fun j => by rw [hW, World.frozen?_alloc_at (hn := hrb)]
  have HB0 := Lib.hid hB0
  have HK := Lib.hid hk
  have HF := Lib.hid hf
  have HW := Lib.hid hW
  have HRB := Lib.hid hrb
  clear hB0 hk hf hW
  go_enter Tryd.func31, Tryd.ntmps31
  go_wp2_with fail
  rw [← HW.out, ← hrb]
  clear hrb
  go_loopw [4, 5, 6] (fun v av iv wr => ∃ (L : List ByteArray) (a k : Nat), WordsAt s L a k ∧ iv = .int .i64 k ∧ av = .int .i64 a ∧ OwnV Value.string wr W.heap.size 9 v L ∧ Below W.heap.size W wr) (fun _ _ i _ => s.size + 1 - (intOf i).toNat)
  case atStart => exact ⟨[], 0, 0, .inl ⟨by omega, by omega, by simp, rfl⟩, rfl, rfl, OwnV.nil _ _ _, Below.refl _ _⟩
  case round =>
    obtain ⟨L, a, k, hat, rfl, rfl, hown, hb⟩ := hrel
    have hk1 : k ≤ s.size + 1 := by rcases hat with ⟨h, _⟩ | ⟨h, _⟩ <;> omega
    have hak : a ≤ k := by rcases hat with ⟨_, h, _⟩ | ⟨_, h, _⟩ <;> omega
    have hLk : L.length ≤ k := by rcases hat with ⟨_, _, h, _⟩ | ⟨_, _, h, _⟩ <;> omega
    have HAT := Lib.hid hat
    have HB := Lib.hid hb
    clear hat hb
    by_cases hend : k = s.size + 1
    · have hv : L.map (·.data.toList) = cutsFrom [] s.data.toList := by
        rcases HAT.out with ⟨h, _⟩ | ⟨_, _, _, h⟩
        · omega
        · exact h
      have HV := Lib.hid hv
      have hlt : ¬ (k : Int) ≤ (s.size : Int) := by omega
      have r0 := (HB.out.cell (p := ⟨rb, 0, none⟩) hz).trans (HK.out 0)
      have r1 := (HB.out.cell (p := ⟨rb, 0 + 1, none⟩) hz).trans (HK.out 1)
      have r2 := (HB.out.cell (p := ⟨rb, 0 + 2, none⟩) hz).trans (HK.out 2)
      have f0 := (HB.out.frozen (p := ⟨rb, 0, none⟩) hz).trans (HF.out 0)
      have f1 := (HB.out.frozen (p := ⟨rb, 0 + 1, none⟩) hz).trans (HF.out 1)
      have f2 := (HB.out.frozen (p := ⟨rb, 0 + 2, none⟩) hz).trans (HF.out 2)
      replace r0 : wr.cell? ⟨rb, 0, none⟩ = some (.int .i64 0) := r0
      replace r1 : wr.cell? ⟨rb, 0 + 1, none⟩ = some (.int .i64 0) := r1
      replace r2 : wr.cell? ⟨rb, 0 + 2, none⟩ = some (.int .i64 0) := r2
      obtain ⟨A, cp, rfl, hsl⟩ := hown.sl
      have hz2 : W.heap.size ≤ wr.heap.size := HB.out.size
      clear hv hend
      have q1 : wr.cell? ⟨rb, 1, none⟩ = some (.int .i64 0) := r1
      have q2 : wr.cell? ⟨rb, 2, none⟩ = some (.int .i64 0) := r2
      have hbB : ∀ q v0 v1 v2, Below w.heap.size w ((((wr.drewN q).setCell ⟨rb, 0, none⟩ v0).setCell ⟨rb, 0 + 1, none⟩ v1).setCell ⟨rb, 0 + 2, none⟩ v2) := fun q v0 v1 v2 => by
        have h0 : Below w.heap.size w (wr.drewN q) := below_drewN (HB0.out.trans (HB.out.mono HB0.out.size)) q
        have hr : w.heap.size ≤ rb := by rw [HRB.out]; exact Nat.le_refl _
        exact ((h0.setCell (p := ⟨rb, 0, none⟩) hr v0).setCell (p := ⟨rb, 0 + 1, none⟩) hr v1).setCell (p := ⟨rb, 0 + 2, none⟩) hr v2
      have HBB := Lib.hid hbB
      clear hbB
      by_cases h3 : L.length = 3
      · match L, h3 with
        | [x, y, z], _ =>
          obtain ⟨b, o, rfl, hbz, c0⟩ := hsl 0 (.string x) rfl
          obtain ⟨b', o', e', _, c1⟩ := hsl 1 (.string y) rfl
          injection e' with e'
          injection e' with e1 e2
          subst e1 e2
          obtain ⟨b', o', e', _, c2⟩ := hsl 2 (.string z) rfl
          injection e' with e'
          injection e' with e1 e2
          subst e1 e2
          rw [Nat.add_zero] at c0
          have hge := OwnV.ge_base hown b rfl
          have hcut : cutsFrom [] s.data.toList = [x.data.toList, y.data.toList, z.data.toList] := HV.out.symm
          have hsm := cuts_small [] s.data.toList
          rw [hcut] at hsm
          have hx := hsm x.data.toList (by simp)
          have hy := hsm y.data.toList (by simp)
          have hzz := hsm z.data.toList (by simp)
          simp only [List.length_nil, Array.length_toList, Nat.zero_add] at hx hy hzz
          have HNX := Lib.hid (fun W : World => number_any x (by exact Nat.le_trans hx hs) W)
          have HNY := Lib.hid (fun W : World => number_any y (by exact Nat.le_trans hy hs) W)
          have HNZ := Lib.hid (fun W : World => number_any z (by exact Nat.le_trans hzz hs) W)
          have HN := Lib.hid (chgR_three hcut)
          have rx := numR_range x.data.toList
          have ry := numR_range y.data.toList
          have rz := numR_range z.data.toList
          obtain ⟨n1, hn1⟩ : ∃ n, n = numR x.data.toList := ⟨_, rfl⟩
          obtain ⟨n2, hn2⟩ : ∃ n, n = numR y.data.toList := ⟨_, rfl⟩
          obtain ⟨n3, hn3⟩ : ∃ n, n = numR z.data.toList := ⟨_, rfl⟩
          rw [← hn1] at rx HN HNX
          rw [← hn2] at ry HN HNY
          rw [← hn3] at rz HN HNZ
          have hL3 : ([x, y, z] : List ByteArray).length = 3 := rfl
          rw [hL3]
          have hbr : ¬ b = rb := by omega
          have hrb' : ¬ rb = b := by omega
          have HOW := Lib.hid hown
          clear hn1 hn2 hn3 hcut hsm hx hy hzz hsl HV hown r1 r2 hL3
          go_wp2_with fail
          go_quiet ((go_at_call 48; (first | (with_reducible exact Calls.quiet_of (HNX.out _)) | (with_reducible exact Calls.quiet_of (HNY.out _)) | (with_reducible exact Calls.quiet_of (HNZ.out _)))))
          by_cases hcl : z.data.toList = [99, 108, 111, 115, 101, 100]
          · have hee : (z.toList == [99, 108, 111, 115, 101, 100]) = true := by
              rw [Lib.toList_data, hcl]
              rfl
            rw [if_pos hcl] at HN
            clear hcl
            go_wp2_with fail
            all_goals (refine bodyPost_ret (v := .tuple #[.agg #[.int .i64 n1, .int .i64 n2, .int .i64 4611686018427387904], .bool (decide (0 ≤ n1) && decide (0 ≤ n2) && decide (0 ≤ (4611686018427387904 : Int)))]) (by simp [results, Tryd.results31, go_sem, r0, q1, q2] <;> omega) rfl ⟨?_, HBB.out _ _ _ _⟩; rw [HN.out])
          · have hee : (z.toList == [99, 108, 111, 115, 101, 100]) = false := by
              rw [Lib.toList_data]
              simpa using hcl
            rw [if_neg hcl] at HN
            clear hcl
            go_wp2_with fail
            all_goals (refine bodyPost_ret (v := .tuple #[.agg #[.int .i64 n1, .int .i64 n2, .int .i64 n3], .bool (decide (0 ≤ n1) && decide (0 ≤ n2) && decide (0 ≤ (n3 : Int)))]) (by simp [results, Tryd.results31, go_sem, r0, q1, q2] <;> omega) rfl ⟨?_, HBB.out _ _ _ _⟩; rw [HN.out])
      · have hne : ((L.length : Int) != 3) = true := by simpa using (show ¬ ((L.length : Int) = 3) by omega)
        have HN := Lib.hid (chgR_not (l := s.data.toList) (by rw [← HV.out, List.length_map]; exact h3))
        clear h3 r1 r2
        go_wp2_with fail
        refine bodyPost_ret (v := .tuple #[.agg #[.int .i64 0, .int .i64 0, .int .i64 0], .bool false]) (by simp [results, Tryd.results31, go_sem, r0, q1, q2]) rfl ⟨?_, HBB.out 0 _ _ _⟩
        rw [HN.out]
    · by_cases hlast : k = s.size
      · subst hlast
        have HN := Lib.hid (words_end HAT.out)
        clear hend
        have hle : (s.size : Int) ≤ (s.size : Int) := by omega
        have hq : ((s.size : Int) == (s.size : Int)) = true := by simp
        go_wp2_with (at_builtin; refine wpList_append_one (f := Value.string) _ rfl _ _ 92 rfl W.heap.size 9 Tryd.underlying92 strC_info rfl (by omega) _ _ wr (s.extract a s.size) rfl rfl rfl hown rfl (by omega) HB.out.size ?_; intro v2 w2 hown2 hg)
        go_roundw
        case rel => exact ⟨L ++ [s.extract a s.size], s.size + 1, s.size + 1, HN.out, by go_num, by go_num, hown2, HB.out.grown hg HB.out.size hown.ge_base⟩
        case measure => simp [intOf]
      · have hks : k < s.size := by omega
        have hq : ((k : Int) == (s.size : Int)) = false := by simp; omega
        have hle : (k : Int) ≤ (s.size : Int) := by omega
        clear hend hlast
        by_cases hc : s[k] = 32
        · have HN := Lib.hid (words_blankAt HAT.out hks hc)
          have e1 : ((s[k].toNat : Int) == 32) = true := by rw [hc]; decide
          clear hc
          go_wp2_with (at_builtin; refine wpList_append_one (f := Value.string) _ rfl _ _ 92 rfl W.heap.size 9 Tryd.underlying92 strC_info rfl (by omega) _ _ wr (s.extract a k) rfl rfl rfl hown rfl (by omega) HB.out.size ?_; intro v2 w2 hown2 hg)
          go_roundw
          case rel => exact ⟨L ++ [s.extract a k], k + 1, k + 1, HN.out, by go_num, by go_num, hown2, HB.out.grown hg HB.out.size hown.ge_base⟩
          case measure => simp [intOf]; omega
        · have HN := Lib.hid (words_more HAT.out hks hc)
          have e1 : ((s[k].toNat : Int) == 32) = false := by
            rw [beq_eq_false_iff_ne]
            intro e
            apply hc
            apply UInt8.toNat_inj.1
            have : s[k].toNat = 32 := by omega
            exact this
          clear hc
          go_wp2_with fail
          go_roundw
          case rel => exact ⟨L, a, k + 1, HN.out, by go_num, rfl, hown, HB.out⟩
          case measure => simp [intOf]; omega
end Go.Proofs.YtppbmnlneoinhaaDoor
