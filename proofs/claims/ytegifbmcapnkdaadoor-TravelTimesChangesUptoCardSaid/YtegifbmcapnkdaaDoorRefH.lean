/-
  The reference of layer 8: ticks, comparison of lists, the time of an edge at a tick.
-/
import Derived.Test.YtegifbmcapnkdaaDoorAll
import Derived.Test.YtegifbmcapnkdaaDoorMoreR
namespace Go.Proofs.YtegifbmcapnkdaaDoor
open Go.RowKit Go.Maps

theorem tick_any (t : Int) (w : World) : Calls Tryd.prog 31 #[.int .i64 t] w fun e w' => e = .returned (.int .i64 (clampT t)) ∧ w' = w := by
  go_enter Tryd.func31, Tryd.ntmps31
  go_wp2_with fail
  go_ret
  exact ⟨rfl, rfl⟩

set_option maxHeartbeats 1000000 in
theorem numbers_any (A A' : Option Addr) (c c' : Nat) (zs : List Int) (w : World) (h : Sl w w.heap.size A (zs.map (Value.int .i64))) (h' : Sl w w.heap.size A' (zs.map (Value.int .i64))) (hl : zs.length ≤ 16384) :
    Calls Tryd.prog 11 #[.slice A zs.length c, .slice A' zs.length c'] w fun e w' => e = .returned (.bool true) ∧ Below w.heap.size w w' := by
  have HH := Lib.hid (And.intro h h')
  obtain ⟨m, hm⟩ : ∃ m, m = zs.length := ⟨_, rfl⟩
  have HM := Lib.hid hm
  rw [← hm] at hl ⊢
  clear h h' hm
  go_enter Tryd.func11, Tryd.ntmps11
  go_wp2_with fail
  go_loopw [5, 13] (fun _ iv wr => ∃ k : Nat, k ≤ m ∧ iv = .int .i64 k ∧ Below w.heap.size w wr) (fun _ i _ => m - (intOf i).toNat)
  case atStart => exact ⟨0, Nat.zero_le _, rfl, Below.refl _ _⟩
  case round =>
    obtain ⟨k, hk, rfl, hb⟩ := hrel
    have HB := Lib.hid hb
    by_cases hlt : k < m
    · obtain ⟨z, hz⟩ : ∃ z, zs[k]? = some z := ⟨zs[k]'(by have := HM.out; omega), by simp⟩
      obtain ⟨b, o, rfl, _, q⟩ := (HH.out.1.below hb).int hz
      obtain ⟨b', o', rfl, _, q'⟩ := (HH.out.2.below hb).int hz
      have hkj : (k : Int) < (m : Int) := by omega
      clear hb hz
      go_wp2_with fail
      go_quiet (fail)
      go_wp2_with fail
      go_roundw
      case rel => exact ⟨k + 1, by omega, by go_num, below_drewN HB.out _⟩
      case measure => simp [intOf]; omega
    · have hkk : k = m := by omega
      subst hkk
      clear hb
      go_wp2_with fail
      go_ret
      exact ⟨rfl, HB.out⟩

set_option maxHeartbeats 1000000 in
theorem same_any (A A' : Option Addr) (c c' : Nat) (L : List ChgT) (w : World) (h : ChgsAt w w.heap.size A L) (h' : ChgsAt w w.heap.size A' L) (hl : L.length ≤ 100000) :
    Calls Tryd.prog 15 #[.slice A L.length c, .slice A' L.length c'] w fun e w' => e = .returned (.bool true) ∧ Below w.heap.size w w' := by
  have HH := Lib.hid (And.intro h h')
  obtain ⟨m, hm⟩ : ∃ m, m = L.length := ⟨_, rfl⟩
  have HM := Lib.hid hm
  rw [← hm] at hl ⊢
  clear h h' hm
  go_enter Tryd.func15, Tryd.ntmps15
  go_wp2_with fail
  go_loopw [5, 13] (fun _ iv wr => ∃ k : Nat, k ≤ m ∧ iv = .int .i64 k ∧ Below w.heap.size w wr) (fun _ i _ => m - (intOf i).toNat)
  case atStart => exact ⟨0, Nat.zero_le _, rfl, Below.refl _ _⟩
  case round =>
    obtain ⟨k, hk, rfl, hb⟩ := hrel
    have HB := Lib.hid hb
    by_cases hlt : k < m
    · obtain ⟨d, hd⟩ : ∃ d, L[k]? = some d := ⟨L[k]'(by have := HM.out; omega), by simp⟩
      obtain ⟨b, o, rfl, _, q0, q1, q2⟩ := chg_at (HH.out.1.below hb) hd
      obtain ⟨b', o', rfl, _, p0, p1, p2⟩ := chg_at (HH.out.2.below hb) hd
      have hkj : (k : Int) < (m : Int) := by omega
      clear hb hd
      go_wp2_with fail
      go_quiet (fail)
      go_wp2_with fail
      go_roundw
      case rel => exact ⟨k + 1, by omega, by go_num, below_drewN HB.out _⟩
      case measure => simp [intOf]; omega
    · have hkk : k = m := by omega
      subst hkk
      clear hb
      go_wp2_with fail
      go_ret
      exact ⟨rfl, HB.out⟩

/-- the reference's table: first times (those of E) and changes L. -/
structure RoadsAt (w : World) (E : List EdgeT) (L : List ChgT) (FA LA : Option Addr) (lc : Nat) : Prop where
  first : Sl w w.heap.size FA ((E.map EdgeT.tm).map (Value.int .i64))
  list : ChgsAt w w.heap.size LA L
  nil : LA = none → lc = 0
theorem RoadsAt.below {w w' : World} {E : List EdgeT} {L : List ChgT} {FA LA : Option Addr} {lc : Nat} (h : RoadsAt w E L FA LA lc) (hb : Below w.heap.size w w') : RoadsAt w' E L FA LA lc :=
  ⟨(h.first.below hb).more hb.size, (h.list.below hb).more hb.size, h.nil⟩

theorem refAt_succ {L : List ChgT} {k : Nat} {d : ChgT} (h : L[k]? = some d) (x i t : Int) : refAt x (L.take (k + 1)) i t = if d.edge = i ∧ d.tick ≤ clampT t then d.time else refAt x (L.take k) i t := by
  have hk := (List.getElem?_eq_some_iff.1 h).1
  have e : L.take (k + 1) = L.take k ++ [d] := by rw [List.take_succ_eq_append_getElem hk, (List.getElem?_eq_some_iff.1 h).2]
  rw [e]
  unfold refAt
  rw [List.foldl_append]
  rfl

set_option maxHeartbeats 2000000 in
theorem rat_any (w : World) {E : List EdgeT} {L : List ChgT} {FA LA : Option Addr} {lc : Nat} (h : RoadsAt w E L FA LA lc) (fc : Nat) (hl : L.length ≤ 100000) (i t : Int) :
    Calls Tryd.prog 22 #[.agg #[.slice FA E.length fc, .slice LA L.length lc], .int .i64 i, .int .i64 t] w fun e w' => e = .returned (.int .i64 (atE E L i t)) ∧ Below w.heap.size w w' := by
  have HB0 := Lib.hid ((Below.refl w.heap.size w).alloc (Nat.le_refl _) (.cells #[.slice FA E.length fc, .slice LA L.length lc] 30))
  by_cases h0 : i < 0
  · have d0 : decide (i < 0) = true := by simpa using h0
    have HR := Lib.hid (atE_out (E := E) (i := i) (by omega) L t)
    clear h
    go_enter Tryd.func22, Tryd.ntmps22
    go_wp2_with fail
    go_ret
    exact ⟨ret_int HR.out.symm, HB0.out⟩
  · obtain ⟨x, rfl⟩ := Int.eq_ofNat_of_zero_le (show 0 ≤ i by omega)
    have d0 : decide ((x : Int) < 0) = false := by simp
    by_cases hx : E.length ≤ x
    · have d1 : decide (E.length ≤ x) = true := by simpa using hx
      have HR := Lib.hid (atE_out (E := E) (i := (x : Int)) (by omega) L t)
      clear h h0
      go_enter Tryd.func22, Tryd.ntmps22
      go_wp2_with fail
      go_ret
      exact ⟨ret_int HR.out.symm, HB0.out⟩
    · have d1 : decide (E.length ≤ x) = false := by simpa using hx
      have hxj : (x : Int) < (E.length : Int) := by omega
      obtain ⟨e, he⟩ : ∃ e, E[x]? = some e := ⟨E[x]'(by omega), by simp⟩
      obtain ⟨b, o, rfl, hbz, q⟩ := h.first.int (j := x) (z := e.tm) (by simp [he])
      have HR := Lib.hid (atE_in he L t)
      have HL := Lib.hid h.list
      have hbne : ¬ b = w.heap.size := by omega
      obtain ⟨m, hm⟩ : ∃ m, m = L.length := ⟨_, rfl⟩
      have HM := Lib.hid hm
      obtain ⟨W, hW⟩ : ∃ W, W = w.alloc (.cells #[.slice (some ⟨b, o, none⟩) E.length fc, .slice LA m lc] 30) := ⟨_, rfl⟩
      rw [← hm] at HB0 hl ⊢
      have hsz : w.heap.size ≤ W.heap.size := by rw [hW]; simp
      rw [← hW] at HB0
      have HW := Lib.hid hW
      clear h h0 hx he hm hW
      go_enter Tryd.func22, Tryd.ntmps22
      go_wp2_with fail
      rw [← HW.out]
      go_loopw [7, 9, 27] (fun v _ iv wr => ∃ k : Nat, k ≤ m ∧ iv = .int .i64 k ∧ v = .int .i64 (refAt e.tm (L.take k) x t) ∧ Below w.heap.size w wr) (fun _ _ i _ => m - (intOf i).toNat)
      case atStart => exact ⟨0, Nat.zero_le _, rfl, rfl, HB0.out⟩
      case round =>
        obtain ⟨k, hk, rfl, rfl, hb⟩ := hrel
        have HB := Lib.hid hb
        by_cases hlt : k < m
        · obtain ⟨d, hd⟩ : ∃ d, L[k]? = some d := ⟨L[k]'(by have := HM.out; omega), by simp⟩
          obtain ⟨b', o', rfl, _, p0, p1, p2⟩ := chg_at (HL.out.below hb) hd
          have HS := Lib.hid (refAt_succ hd e.tm x t)
          have HB2 := Lib.hid (fun q => below_drewN (HB.out.alloc HB.out.size (.cells #[.int .i64 d.tick, .int .i64 d.edge, .int .i64 d.time] 25)) q)
          have hkj : (k : Int) < (m : Int) := by omega
          clear hb hd
          by_cases he : d.edge = (x : Int)
          · rw [he] at p1 HB2
            by_cases ht : d.tick ≤ clampT t
            · have dt : decide (d.tick ≤ clampT t) = true := by simpa using ht
              have HS2 := Lib.hid (HS.out.trans (if_pos ⟨he, ht⟩))
              clear he ht
              go_wp2_with fail
              go_quiet ((go_at_call 31; exact Calls.quiet_of_same (tick_any _ _)))
              go_wp2_with fail
              go_roundw
              case rel => exact ⟨k + 1, by omega, by go_num, by rw [HS2.out], HB2.out _⟩
              case measure => simp [intOf]; omega
            · have dt : decide (d.tick ≤ clampT t) = false := by simpa using ht
              have HS2 := Lib.hid (HS.out.trans (if_neg (fun q => ht q.2)))
              clear he ht
              go_wp2_with fail
              go_quiet ((go_at_call 31; exact Calls.quiet_of_same (tick_any _ _)))
              go_wp2_with fail
              go_roundw
              case rel => exact ⟨k + 1, by omega, by go_num, by rw [HS2.out], HB2.out _⟩
              case measure => simp [intOf]; omega
          · have de : (d.edge == (x : Int)) = false := by simpa using he
            have HS2 := Lib.hid (HS.out.trans (if_neg (fun q => he q.1)))
            clear he
            go_wp2_with fail
            go_quiet (fail)
            go_wp2_with fail
            go_roundw
            case rel => exact ⟨k + 1, by omega, by go_num, by rw [HS2.out], HB2.out _⟩
            case measure => simp [intOf]; omega
        · have hkk : k = m := by omega
          subst hkk
          clear hb
          go_wp2_with fail
          go_ret
          exact ⟨ret_int (by rw [HR.out, HM.out, List.take_length]), HB.out⟩
end Go.Proofs.YtegifbmcapnkdaaDoor
