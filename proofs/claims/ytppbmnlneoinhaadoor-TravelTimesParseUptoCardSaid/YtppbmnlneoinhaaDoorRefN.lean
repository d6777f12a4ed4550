/-
  The reference of layer 8: comparison of lists; its table in memory.
-/
import Derived.Test.YtppbmnlneoinhaaDoorAll
import Derived.Test.YtppbmnlneoinhaaDoorMoreR
namespace Go.Proofs.YtppbmnlneoinhaaDoor
open Go.RowKit Go.Maps

set_option maxHeartbeats 1000000 in
theorem numbers_any (A A' : Option Addr) (c c' : Nat) (zs : List Int) (w : World) (h : Sl w w.heap.size A (zs.map (Value.int .i64))) (h' : Sl w w.heap.size A' (zs.map (Value.int .i64))) (hl : zs.length ≤ 16384) :
    Calls Tryd.prog 15 #[.slice A zs.length c, .slice A' zs.length c'] w fun e w' => e = .returned (.bool true) ∧ Below w.heap.size w w' := by
  have HH := Lib.hid (And.intro h h')
  obtain ⟨m, hm⟩ : ∃ m, m = zs.length := ⟨_, rfl⟩
  have HM := Lib.hid hm
  rw [← hm] at hl ⊢
  clear h h' hm
  go_enter Tryd.func15, Tryd.ntmps15
  go_wp2_with fail
  go_loopw [5, 13] (fun _ iv wr => ∃ k : Nat, k ≤ m ∧ iv = .int .i64 k ∧ Below w.heap.size w wr) (fun _ i _ => m - (intOf i).toNat)
  case atStart => exact ⟨0, Nat.zero_le _, rfl, Below.refl _ _⟩
  case round =>
    obtain ⟨k, hk, rfl, hb⟩ := hrel
    have HB := Lib.hid hb
    by_cases hlt : k < m
    · obtain ⟨z, hz⟩ : ∃ z, zs[k]? = some z := ⟨zs[k]'(by have := HM.out; omega), by simp⟩
      obtain ⟨b, o, rfl, _, q⟩ := (HH.out.1.below hb).int hz
      obtain ⟨b', o', rfl, _, q'⟩ := (HH.out.2.below hb).int hz
      have hkj : (k : Int) < (m : Int) := by omega
      clear hb hz
      go_wp2_with fail
      go_quiet (fail)
      go_wp2_with fail
      go_roundw
      case rel => exact ⟨k + 1, by omega, by go_num, below_drewN HB.out _⟩
      case measure => simp [intOf]; omega
    · have hkk : k = m := by omega
      subst hkk
      clear hb
      go_wp2_with fail
      go_ret
      exact ⟨rfl, HB.out⟩

set_option maxHeartbeats 1000000 in
theorem same_any (A A' : Option Addr) (c c' : Nat) (L : List ChgT) (w : World) (h : ChgsAt w w.heap.size A L) (h' : ChgsAt w w.heap.size A' L) (hl : L.length ≤ 100000) :
    Calls Tryd.prog 12 #[.slice A L.length c, .slice A' L.length c'] w fun e w' => e = .returned (.bool true) ∧ Below w.heap.size w w' := by
  have HH := Lib.hid (And.intro h h')
  obtain ⟨m, hm⟩ : ∃ m, m = L.length := ⟨_, rfl⟩
  have HM := Lib.hid hm
  rw [← hm] at hl ⊢
  clear h h' hm
  go_enter Tryd.func12, Tryd.ntmps12
  go_wp2_with fail
  go_loopw [5, 13] (fun _ iv wr => ∃ k : Nat, k ≤ m ∧ iv = .int .i64 k ∧ Below w.heap.size w wr) (fun _ i _ => m - (intOf i).toNat)
  case atStart => exact ⟨0, Nat.zero_le _, rfl, Below.refl _ _⟩
  case round =>
    obtain ⟨k, hk, rfl, hb⟩ := hrel
    have HB := Lib.hid hb
    by_cases hlt : k < m
    · obtain ⟨d, hd⟩ : ∃ d, L[k]? = some d := ⟨L[k]'(by have := HM.out; omega), by simp⟩
      obtain ⟨b, o, rfl, _, q0, q1, q2⟩ := chg_at (HH.out.1.below hb) hd
      obtain ⟨b', o', rfl, _, p0, p1, p2⟩ := chg_at (HH.out.2.below hb) hd
      have hkj : (k : Int) < (m : Int) := by omega
      clear hb hd
      go_wp2_with fail
      go_quiet (fail)
      go_wp2_with fail
      go_roundw
      case rel => exact ⟨k + 1, by omega, by go_num, below_drewN HB.out _⟩
      case measure => simp [intOf]; omega
    · have hkk : k = m := by omega
      subst hkk
      clear hb
      go_wp2_with fail
      go_ret
      exact ⟨rfl, HB.out⟩

/-- the reference's table: first times (those of E) and changes L. -/
structure RoadsAt (w : World) (E : List EdgeT) (L : List ChgT) (FA LA : Option Addr) (lc : Nat) : Prop where
  first : Sl w w.heap.size FA ((E.map EdgeT.tm).map (Value.int .i64))
  list : ChgsAt w w.heap.size LA L
  nil : LA = none → lc = 0
theorem RoadsAt.below {w w' : World} {E : List EdgeT} {L : List ChgT} {FA LA : Option Addr} {lc : Nat} (h : RoadsAt w E L FA LA lc) (hb : Below w.heap.size w w') : RoadsAt w' E L FA LA lc :=
  ⟨(h.first.below hb).more hb.size, (h.list.below hb).more hb.size, h.nil⟩
end Go.Proofs.YtppbmnlneoinhaaDoor
