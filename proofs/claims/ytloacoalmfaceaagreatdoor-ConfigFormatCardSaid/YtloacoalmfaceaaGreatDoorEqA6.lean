/-
  slices.Equal at []int, []api.Edge and []api.UnitConfig (printed by geneqa6.py).
-/
import Derived.Test.YtloacoalmfaceaaGreatDoorDef6
import Derived.BigGuardPart
import Derived.Deep.QuietTactic
import Derived.BigQuiet
import Derived.Deep.Light
namespace Go.Proofs.YtloacoalmfaceaaGreatDoor
open Go.RowKit Go.Maps

def SameL {α : Type} (xs ys : List α) (w : World) (e : Ending) (w' : World) : Prop := e = .returned (.bool (tb (xs = ys))) ∧ ∃ n, w' = w.drewN n
theorem take_snoc' {α : Type} {us : List α} {k : Nat} {u : α} (h : us[k]? = some u) : us.take (k + 1) = us.take k ++ [u] := by
  obtain ⟨h1, h2⟩ := List.getElem?_eq_some_iff.1 h
  rw [List.take_succ_eq_append_getElem h1, h2]
theorem eq_of_takes {α : Type} {zs ys : List α} (hl : zs.length = ys.length) (h : zs.take zs.length = ys.take zs.length) : zs = ys := by
  rw [List.take_length] at h
  rw [h, hl, List.take_length]

set_option maxRecDepth 100000 in
set_option maxHeartbeats 4000000 in
theorem equalI_any (A C : Option Addr) (c d : Nat) (zs ys : List Int) (w : World) (B B' : Nat) (ha : Sl w B A (zs.map (Value.int .i64))) (hb : Sl w B' C (ys.map (Value.int .i64))) (na : zs.length ≤ 9223372036854775807) :
    Calls Tryz.prog 44 #[.slice A zs.length c, .slice C ys.length d] w (SameL zs ys w) := by
  by_cases hl : zs.length = ys.length
  · have hlb : ((zs.length : Int) == (ys.length : Int)) = true := by simp [hl]
    have hlb2 : ((zs.length : Int) != (ys.length : Int)) = false := by simp [hl]
    have HL := Lib.hid hl
    clear hl
    go_enter Tryz.func44, Tryz.ntmps44
    go_wp2_with fail
    go_loopw [13] (fun i wr => ∃ k : Nat, k ≤ zs.length ∧ i = .int .i64 k ∧ zs.take k = ys.take k ∧ ∃ n, wr = w.drewN n) (fun i _ => zs.length - (intOf i).toNat)
    case atStart => exact ⟨0, Nat.zero_le _, rfl, rfl, 0, rfl⟩
    case round =>
      obtain ⟨k, hk, rfl, htk, n, rfl⟩ := hrel
      have HTK := Lib.hid htk
      clear htk
      by_cases hlt : k < zs.length
      · have hlt2 : k < ys.length := by rw [← HL.out]; exact hlt
        obtain ⟨z, hz⟩ : ∃ z, zs[k]? = some z := ⟨zs[k], by simp⟩
        obtain ⟨y, hy⟩ : ∃ y, ys[k]? = some y := ⟨ys[k], by simp⟩
        have HZ := Lib.hid hz
        have HY := Lib.hid hy
        obtain ⟨b, o, rfl, hbb, hcell⟩ := ha.int hz
        obtain ⟨b2, o2, rfl, hbb2, hcell2⟩ := hb.int hy
        clear hz hy
        by_cases hzy : z = y
        · subst hzy
          have hb1 : (z != z) = false := by simp
          have HT2 : Hid (zs.take (k + 1) = ys.take (k + 1)) := by show _ = _; rw [take_snoc' HZ.out, take_snoc' HY.out, HTK.out]
          clear HZ HY
          go_wp2_with fail
          go_quiet (fail)
          go_wp2_with fail
          go_roundw
          case rel => exact ⟨k + 1, by omega, by go_num, HT2.out, _, rfl⟩
          case measure => simp [intOf]; omega
        · have hb1 : (z != y) = true := by simp [hzy]
          have hb2 : (z == y) = false := by simp [hzy]
          have HNE : Hid (¬ zs = ys) := by
            intro e
            have hz := HZ.out
            rw [e] at hz
            exact hzy (Option.some.inj (hz.symm.trans HY.out))
          clear HZ HY
          go_wp2_with fail
          go_quiet (fail)
          go_wp2_with fail
          go_ret
          exact ⟨ret_no HNE.out, n + nq, by rw [World.drewN_drewN]⟩
      · have hkk : k = zs.length := by omega
        subst hkk
        have HEQ : Hid (zs = ys) := eq_of_takes HL.out HTK.out
        go_wp2_with fail
        go_ret
        exact ⟨ret_yes HEQ.out, _, rfl⟩
  · have hlb : ((zs.length : Int) == (ys.length : Int)) = false := by simp; omega
    have hlb2 : ((zs.length : Int) != (ys.length : Int)) = true := by simp; omega
    have HNE : Hid (¬ zs = ys) := fun e => hl (by rw [e])
    clear hl
    go_enter Tryz.func44, Tryz.ntmps44
    go_wp2_with fail
    go_ret
    exact ⟨ret_no HNE.out, 0, rfl⟩

set_option maxRecDepth 100000 in
set_option maxHeartbeats 4000000 in
theorem equalE_any (A C : Option Addr) (c d : Nat) (zs ys : List T3) (w : World) (B B' : Nat) (ha : RecsAt cells3 w B A zs) (hb : RecsAt cells3 w B' C ys) (na : zs.length ≤ 9223372036854775807) :
    Calls Tryz.prog 45 #[.slice A zs.length c, .slice C ys.length d] w (SameL zs ys w) := by
  by_cases hl : zs.length = ys.length
  · have hlb : ((zs.length : Int) == (ys.length : Int)) = true := by simp [hl]
    have hlb2 : ((zs.length : Int) != (ys.length : Int)) = false := by simp [hl]
    have HL := Lib.hid hl
    clear hl
    go_enter Tryz.func45, Tryz.ntmps45
    go_wp2_with fail
    go_loopw [13] (fun i wr => ∃ k : Nat, k ≤ zs.length ∧ i = .int .i64 k ∧ zs.take k = ys.take k ∧ ∃ n, wr = w.drewN n) (fun i _ => zs.length - (intOf i).toNat)
    case atStart => exact ⟨0, Nat.zero_le _, rfl, rfl, 0, rfl⟩
    case round =>
      obtain ⟨k, hk, rfl, htk, n, rfl⟩ := hrel
      have HTK := Lib.hid htk
      clear htk
      by_cases hlt : k < zs.length
      · have hlt2 : k < ys.length := by rw [← HL.out]; exact hlt
        obtain ⟨z, hz⟩ : ∃ z, zs[k]? = some z := ⟨zs[k], by simp⟩
        obtain ⟨y, hy⟩ : ∃ y, ys[k]? = some y := ⟨ys[k], by simp⟩
        have HZ := Lib.hid hz
        have HY := Lib.hid hy
        obtain ⟨b, o, rfl, hbb, q0, q1, q2⟩ := rec3_at ha hz
        obtain ⟨b2, o2, rfl, hbb2, r0, r1, r2⟩ := rec3_at hb hy
        clear hz hy
        obtain ⟨x0, x1, x2, rfl⟩ : ∃ a b c, z = ⟨a, b, c⟩ := ⟨z.a, z.b, z.c, rfl⟩
        obtain ⟨y0, y1, y2, rfl⟩ : ∃ a b c, y = ⟨a, b, c⟩ := ⟨y.a, y.b, y.c, rfl⟩
        dsimp only at q0 q1 q2 r0 r1 r2
        by_cases h0 : x0 = y0
        · subst h0
          have g0 : (x0 == x0) = true := by simp
          by_cases h1 : x1 = y1
          · subst h1
            have g1 : (x1 == x1) = true := by simp
            by_cases h2 : x2 = y2
            · subst h2
              have g2 : (x2 == x2) = true := by simp
              have HT2 : Hid (zs.take (k + 1) = ys.take (k + 1)) := by show _ = _; rw [take_snoc' HZ.out, take_snoc' HY.out, HTK.out]
              clear HZ HY
              go_wp2_with fail
              go_quiet (fail)
              go_wp2_with fail
              go_roundw
              case rel => exact ⟨k + 1, by omega, by go_num, HT2.out, _, rfl⟩
              case measure => simp [intOf]; omega
            · have g2 : (x2 == y2) = false := by simp [h2]
              have HNE : Hid (¬ zs = ys) := by
                intro e
                have hz := HZ.out
                rw [e] at hz
                exact h2 (congrArg T3.c (Option.some.inj (hz.symm.trans HY.out)))
              clear HZ HY
              go_wp2_with fail
              go_quiet (fail)
              go_wp2_with fail
              go_ret
              exact ⟨ret_no HNE.out, n + nq, by rw [World.drewN_drewN]⟩
          · have g1 : (x1 == y1) = false := by simp [h1]
            have HNE : Hid (¬ zs = ys) := by
              intro e
              have hz := HZ.out
              rw [e] at hz
              exact h1 (congrArg T3.b (Option.some.inj (hz.symm.trans HY.out)))
            clear HZ HY
            go_wp2_with fail
            go_quiet (fail)
            go_wp2_with fail
            go_ret
            exact ⟨ret_no HNE.out, n + nq, by rw [World.drewN_drewN]⟩
        · have g0 : (x0 == y0) = false := by simp [h0]
          have HNE : Hid (¬ zs = ys) := by
            intro e
            have hz := HZ.out
            rw [e] at hz
            exact h0 (congrArg T3.a (Option.some.inj (hz.symm.trans HY.out)))
          clear HZ HY
          go_wp2_with fail
          go_quiet (fail)
          go_wp2_with fail
          go_ret
          exact ⟨ret_no HNE.out, n + nq, by rw [World.drewN_drewN]⟩
      · have hkk : k = zs.length := by omega
        subst hkk
        have HEQ : Hid (zs = ys) := eq_of_takes HL.out HTK.out
        go_wp2_with fail
        go_ret
        exact ⟨ret_yes HEQ.out, _, rfl⟩
  · have hlb : ((zs.length : Int) == (ys.length : Int)) = false := by simp; omega
    have hlb2 : ((zs.length : Int) != (ys.length : Int)) = true := by simp; omega
    have HNE : Hid (¬ zs = ys) := fun e => hl (by rw [e])
    clear hl
    go_enter Tryz.func45, Tryz.ntmps45
    go_wp2_with fail
    go_ret
    exact ⟨ret_no HNE.out, 0, rfl⟩

set_option maxRecDepth 100000 in
set_option maxHeartbeats 4000000 in
theorem equalU_any (A C : Option Addr) (c d : Nat) (zs ys : List T3) (w : World) (B B' : Nat) (ha : RecsAt cells3 w B A zs) (hb : RecsAt cells3 w B' C ys) (na : zs.length ≤ 9223372036854775807) :
    Calls Tryz.prog 46 #[.slice A zs.length c, .slice C ys.length d] w (SameL zs ys w) := by
  by_cases hl : zs.length = ys.length
  · have hlb : ((zs.length : Int) == (ys.length : Int)) = true := by simp [hl]
    have hlb2 : ((zs.length : Int) != (ys.length : Int)) = false := by simp [hl]
    have HL := Lib.hid hl
    clear hl
    go_enter Tryz.func46, Tryz.ntmps46
    go_wp2_with fail
    go_loopw [13] (fun i wr => ∃ k : Nat, k ≤ zs.length ∧ i = .int .i64 k ∧ zs.take k = ys.take k ∧ ∃ n, wr = w.drewN n) (fun i _ => zs.length - (intOf i).toNat)
    case atStart => exact ⟨0, Nat.zero_le _, rfl, rfl, 0, rfl⟩
    case round =>
      obtain ⟨k, hk, rfl, htk, n, rfl⟩ := hrel
      have HTK := Lib.hid htk
      clear htk
      by_cases hlt : k < zs.length
      · have hlt2 : k < ys.length := by rw [← HL.out]; exact hlt
        obtain ⟨z, hz⟩ : ∃ z, zs[k]? = some z := ⟨zs[k], by simp⟩
        obtain ⟨y, hy⟩ : ∃ y, ys[k]? = some y := ⟨ys[k], by simp⟩
        have HZ := Lib.hid hz
        have HY := Lib.hid hy
        obtain ⟨b, o, rfl, hbb, q0, q1, q2⟩ := rec3_at ha hz
        obtain ⟨b2, o2, rfl, hbb2, r0, r1, r2⟩ := rec3_at hb hy
        clear hz hy
        obtain ⟨x0, x1, x2, rfl⟩ : ∃ a b c, z = ⟨a, b, c⟩ := ⟨z.a, z.b, z.c, rfl⟩
        obtain ⟨y0, y1, y2, rfl⟩ : ∃ a b c, y = ⟨a, b, c⟩ := ⟨y.a, y.b, y.c, rfl⟩
        dsimp only at q0 q1 q2 r0 r1 r2
        by_cases h0 : x0 = y0
        · subst h0
          have g0 : (x0 == x0) = true := by simp
          by_cases h1 : x1 = y1
          · subst h1
            have g1 : (x1 == x1) = true := by simp
            by_cases h2 : x2 = y2
            · subst h2
              have g2 : (x2 == x2) = true := by simp
              have HT2 : Hid (zs.take (k + 1) = ys.take (k + 1)) := by show _ = _; rw [take_snoc' HZ.out, take_snoc' HY.out, HTK.out]
              clear HZ HY
              go_wp2_with fail
              go_quiet (fail)
              go_wp2_with fail
              go_roundw
              case rel => exact ⟨k + 1, by omega, by go_num, HT2.out, _, rfl⟩
              case measure => simp [intOf]; omega
            · have g2 : (x2 == y2) = false := by simp [h2]
              have HNE : Hid (¬ zs = ys) := by
                intro e
                have hz := HZ.out
                rw [e] at hz
                exact h2 (congrArg T3.c (Option.some.inj (hz.symm.trans HY.out)))
              clear HZ HY
              go_wp2_with fail
              go_quiet (fail)
              go_wp2_with fail
              go_ret
              exact ⟨ret_no HNE.out, n + nq, by rw [World.drewN_drewN]⟩
          · have g1 : (x1 == y1) = false := by simp [h1]
            have HNE : Hid (¬ zs = ys) := by
              intro e
              have hz := HZ.out
              rw [e] at hz
              exact h1 (congrArg T3.b (Option.some.inj (hz.symm.trans HY.out)))
            clear HZ HY
            go_wp2_with fail
            go_quiet (fail)
            go_wp2_with fail
            go_ret
            exact ⟨ret_no HNE.out, n + nq, by rw [World.drewN_drewN]⟩
        · have g0 : (x0 == y0) = false := by simp [h0]
          have HNE : Hid (¬ zs = ys) := by
            intro e
            have hz := HZ.out
            rw [e] at hz
            exact h0 (congrArg T3.a (Option.some.inj (hz.symm.trans HY.out)))
          clear HZ HY
          go_wp2_with fail
          go_quiet (fail)
          go_wp2_with fail
          go_ret
          exact ⟨ret_no HNE.out, n + nq, by rw [World.drewN_drewN]⟩
      · have hkk : k = zs.length := by omega
        subst hkk
        have HEQ : Hid (zs = ys) := eq_of_takes HL.out HTK.out
        go_wp2_with fail
        go_ret
        exact ⟨ret_yes HEQ.out, _, rfl⟩
  · have hlb : ((zs.length : Int) == (ys.length : Int)) = false := by simp; omega
    have hlb2 : ((zs.length : Int) != (ys.length : Int)) = true := by simp; omega
    have HNE : Hid (¬ zs = ys) := fun e => hl (by rw [e])
    clear hl
    go_enter Tryz.func46, Tryz.ntmps46
    go_wp2_with fail
    go_ret
    exact ⟨ret_no HNE.out, 0, rfl⟩
end Go.Proofs.YtloacoalmfaceaaGreatDoor
