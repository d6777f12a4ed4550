/-
  config.validUnits.
-/
import Derived.Test.YtloacoalmfaceaaGreatDoorValE
namespace Go.Proofs.YtloacoalmfaceaaGreatDoor
open Go.RowKit

set_option maxRecDepth 100000 in
set_option maxHeartbeats 4000000 in
theorem validUnits_any (w : World) (cb : Nat) (c : Cfg) (hi : CfgIn w cb c) (hc : CfgAt w w.heap.size c) (hcb : cb < w.heap.size) (hl : c.us.length ≤ 1099511627) :
    Calls Tryz.prog 24 #[.pointer (some ⟨cb, 0, none⟩)] w fun e w' => e = .returned (.bool (tb ((∀ u ∈ c.us, UnitOk c.cen c.ds.length u) ∧ c.us.length ≤ 256))) ∧ Below w.heap.size w w' := by
  obtain ⟨c0, c1, c2, c3, c4⟩ := hi.five
  obtain ⟨n, hnn⟩ : ∃ n, n = c.ds.length := ⟨_, rfl⟩
  obtain ⟨cen, hcen⟩ : ∃ x, x = c.cen := ⟨_, rfl⟩
  obtain ⟨m, hmm⟩ : ∃ m, m = c.us.length := ⟨_, rfl⟩
  have HM := Lib.hid hmm
  have HI := Lib.hid (And.intro hi (And.intro hc hcb))
  rw [← hnn] at c1 ⊢
  rw [← hcen] at c0 ⊢
  rw [← hmm] at c3 hl ⊢
  clear hi hc hnn hmm c2 c4 hcen
  go_enter Tryz.func24, Tryz.ntmps24
  go_wp2_with fail
  go_loopw [10] (fun i X => ∃ k : Nat, k ≤ m ∧ i = .int .i64 k ∧ Below w.heap.size w X ∧ ∀ e ∈ c.us.take k, UnitOk cen n e) (fun i _ => m - (intOf i).toNat)
  case atStart => exact ⟨0, by omega, rfl, Below.refl _ _, by simp⟩
  case round =>
    obtain ⟨k, hk, rfl, hb, hok⟩ := hrel
    have HB := Lib.hid (And.intro hb hok)
    have r0 := (hb.cell (p := ⟨cb, 0, none⟩) hcb).trans c0
    have r1 := (hb.cell (p := ⟨cb, 1, none⟩) hcb).trans c1
    have r3 := (hb.cell (p := ⟨cb, 3, none⟩) hcb).trans c3
    by_cases hlt : k < m
    · have hlt' : (k : Int) < (m : Int) := by omega
      obtain ⟨t, ht⟩ : ∃ t, c.us[k]? = some t := ⟨c.us[k]'(by have := HM.out; omega), by simp⟩
      obtain ⟨b, o, hA, hbb, q0, q1, q2⟩ := rec3_at (RecsAt.below HI.out.2.1.us hb) ht
      rw [hA]
      obtain ⟨f0, f1, f2⟩ := fresh3 wr t 53
      have hbA : Below wr.heap.size wr (wr.alloc (.cells #[.int .i64 t.a, .int .i64 t.b, .int .i64 t.c] 53)) := (Below.refl _ _).alloc (Nat.le_refl _) _
      have hcbr : cb < wr.heap.size := Nat.lt_of_lt_of_le hcb hb.size
      have r0 := (hbA.cell (p := ⟨cb, 0, none⟩) hcbr).trans r0
      have r1 := (hbA.cell (p := ⟨cb, 1, none⟩) hcbr).trans r1
      have hb1 : Below w.heap.size w (wr.alloc (.cells #[.int .i64 t.a, .int .i64 t.b, .int .i64 t.c] 53)) := hb.alloc hb.size _
      have HT := Lib.hid ht
      obtain ⟨a, b', c', rfl⟩ : ∃ a b c, t = ⟨a, b, c⟩ := ⟨t.a, t.b, t.c, rfl⟩
      dsimp only at q0 q1 q2 f0 f1 f2 hb1 r0 r1
      obtain ⟨W1, hW1⟩ : ∃ W1, W1 = wr.alloc (.cells #[.int .i64 a, .int .i64 b', .int .i64 c'] 53) := ⟨_, rfl⟩
      rw [← hW1] at f0 f1 f2 hb1 r0 r1
      have HB1 := Lib.hid hb1
      clear hb hok ht hA hb1 hbA r3
      by_cases hk4 : KindOk a
      · have HK := Lib.hid (fun X : World => by have := isKind_any a X; rw [tb_true hk4] at this; exact this)
        by_cases hh : Idx b' cen
        · have HH := Lib.hid (fun X : World => by have := isIndex_any b' cen X; rw [tb_true hh] at this; exact this)
          by_cases hnd : Idx c' n
          · have HN := Lib.hid (fun X : World => by have := isIndex_any c' n X; rw [tb_true hnd] at this; exact this)
            go_wp2_with fail
            rw [← hW1]
            clear hW1
            go_quiet ((first | (go_at_call 49; exact Calls.quiet_of_same (HK.out _)) | (go_at_call 22; (first | (with_reducible exact Calls.quiet_of_same (HH.out _)) | (with_reducible exact Calls.quiet_of_same (HN.out _))))))
            go_wp2_with fail
            go_roundw
            case rel => exact ⟨k + 1, by omega, by go_num, below_drewN HB1.out _, (all_take_iff HT.out).2 ⟨HB.out.2, hk4, hh, hnd⟩⟩
            case measure => simp [intOf]; omega
          · have HN := Lib.hid (fun X : World => by have := isIndex_any c' n X; rw [tb_false hnd] at this; exact this)
            go_wp2_with fail
            rw [← hW1]
            clear hW1
            go_quiet ((first | (go_at_call 49; exact Calls.quiet_of_same (HK.out _)) | (go_at_call 22; (first | (with_reducible exact Calls.quiet_of_same (HH.out _)) | (with_reducible exact Calls.quiet_of_same (HN.out _))))))
            go_wp2_with fail
            go_ret
            exact ⟨ret_no (fun h => hnd (h.1 _ (List.mem_of_getElem? HT.out)).2.2), below_drewN HB1.out _⟩
        · have HH := Lib.hid (fun X : World => by have := isIndex_any b' cen X; rw [tb_false hh] at this; exact this)
          go_wp2_with fail
          rw [← hW1]
          clear hW1
          go_quiet ((first | (go_at_call 49; exact Calls.quiet_of_same (HK.out _)) | (go_at_call 22; (first | (with_reducible exact Calls.quiet_of_same (HH.out _))))))
          go_wp2_with fail
          go_ret
          exact ⟨ret_no (fun h => hh (h.1 _ (List.mem_of_getElem? HT.out)).2.1), below_drewN HB1.out _⟩
      · have HK := Lib.hid (fun X : World => by have := isKind_any a X; rw [tb_false hk4] at this; exact this)
        go_wp2_with fail
        rw [← hW1]
        clear hW1
        go_quiet ((first | (go_at_call 49; exact Calls.quiet_of_same (HK.out _))))
        go_wp2_with fail
        go_ret
        exact ⟨ret_no (fun h => hk4 (h.1 _ (List.mem_of_getElem? HT.out)).1), below_drewN HB1.out _⟩
    · have hkk : k = m := by omega
      subst hkk
      clear hb hok
      by_cases hm : k ≤ 256
      · have e1 : decide ((k : Int) ≤ 256) = true := decide_eq_true (by omega)
        go_wp2_with fail
        go_ret
        refine ⟨ret_yes ⟨?_, hm⟩, HB.out.1⟩
        have := HB.out.2
        rwa [HM.out, List.take_length] at this
      · have e1 : decide ((k : Int) ≤ 256) = false := decide_eq_false (by omega)
        go_wp2_with fail
        go_ret
        exact ⟨ret_no (fun h => hm h.2), HB.out.1⟩
end Go.Proofs.YtloacoalmfaceaaGreatDoor
