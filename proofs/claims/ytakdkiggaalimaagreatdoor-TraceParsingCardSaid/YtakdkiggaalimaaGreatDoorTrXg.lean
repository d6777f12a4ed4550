/-
  samaritanref51: number, at.
-/
import Derived.Test.YtakdkiggaalimaaGreatDoorTrXa
import Derived.Test.YtakdkiggaalimaaGreatDoorTrG
import Derived.Test.YtakdkiggaalimaaGreatDoorTrRd
namespace Go.Proofs.YtakdkiggaalimaaGreatDoor
open Go.RowKit Go.Maps

theorem byte_of {x : Wd} {k : Nat} (h : k < x.length) : ∃ c, x[k]? = some c ∧ ∀ hk : k < (bs x).size, (bs x)[k] = c := by
  refine ⟨x[k], by simp, fun hk => ?_⟩
  simp [bs, ByteArray.getElem_eq_getElem_data]
theorem beq_45 (c : UInt8) : (((c.toNat : Nat) : Int) == 45) = decide (c = 45) := by
  by_cases h : c = 45
  · rw [h]
    rfl
  · rw [decide_eq_false h, beq_eq_false_iff_ne]
    intro e
    apply h
    apply UInt8.toNat_inj.1
    have : c.toNat = 45 := by omega
    exact this
theorem stepR_no {n : Int} {c : UInt8} (h : c ≠ 45) : stepR n c = IntKind.i64.wrap (IntKind.i64.wrap (IntKind.i64.wrap (10 * n) + c.toNat) - 48) := if_neg h
theorem stepR_yes {n : Int} {c : UInt8} (h : c = 45) : stepR n c = n := if_pos h
theorem w64 (n : Int) : wrap64 n = IntKind.i64.wrap n := by
  rw [IntKind.wrap_i64]
  unfold wrap64
  omega
theorem fold_next {x : Wd} {k : Nat} {c : UInt8} (h : x[k]? = some c) : (x.take (k + 1)).foldl stepR 0 = stepR ((x.take k).foldl stepR 0) c := by
  rw [take_snoc h, List.foldl_append]
  rfl
set_option maxRecDepth 100000 in
set_option maxHeartbeats 4000000 in
theorem number51_any (x : Wd) (hx : x.length ≤ 1000000000) (w : World) : Calls Tryz.prog 62 #[.string (bs x)] w fun e w' => e = .returned (.int .i64 (numR x)) ∧ w' = w := by
  have hsz : (bs x).size = x.length := bs_size x
  have HB := Lib.hid (fun k (h : k < x.length) => byte_of h)
  obtain ⟨s, hs⟩ : ∃ s, s = bs x := ⟨_, rfl⟩
  rw [← hs] at hsz ⊢
  have HS := Lib.hid hs
  have hxs : s.size ≤ 1000000000 := by omega
  have HSZ := Lib.hid hsz
  clear hs hsz hx
  go_enter Tryz.func62, Tryz.ntmps62
  go_wp2_with fail
  go_loopw [3, 4] (fun nv iv X => ∃ (k : Nat) (n : Int), k ≤ s.size ∧ iv = .int .i64 k ∧ nv = .int .i64 n ∧ n = (x.take k).foldl stepR 0 ∧ X = w) (fun _ iv _ => s.size - (intOf iv).toNat)
  case atStart => exact ⟨0, 0, Nat.zero_le _, rfl, rfl, rfl, rfl⟩
  case round =>
    obtain ⟨k, n, hk, rfl, rfl, hn, rfl⟩ := hrel
    have HN := Lib.hid hn
    have h64 : Is64 n := by rw [hn]; exact foldR_64 _ is64_0
    clear hn
    by_cases hlt : k < s.size
    · have hlt' : (k : Int) < (s.size : Int) := by omega
      obtain ⟨c, hc, hsc⟩ := HB.out k (by have := HSZ.out; omega)
      rw [← HS.out] at hsc
      have hsk := hsc hlt
      have HC := Lib.hid hc
      clear hc hsc
      have hcl := UInt8.toNat_lt c
      by_cases h45 : c = 45
      · have e1 : ((s[k].toNat : Int) == 45) = true := by rw [hsk, beq_45]; exact decide_eq_true h45
        have e2 : ((s[k].toNat : Int) != 45) = false := by rw [bne, e1]; rfl
        have HQ := Lib.hid (show n = (x.take (k + 1)).foldl stepR 0 by rw [fold_next HC.out, stepR_yes h45]; exact HN.out)
        clear hsk h45 h64 e1
        go_wp2_with fail
        go_roundw
        case rel => exact ⟨k + 1, n, by omega, by go_num, rfl, HQ.out, by first | rfl | trivial⟩
        case measure => simp [intOf]; omega
      · have e1 : ((s[k].toNat : Int) == 45) = false := by rw [hsk, beq_45]; exact decide_eq_false h45
        have e2 : ((s[k].toNat : Int) != 45) = true := by rw [bne, e1]; rfl
        have w1 : IntKind.i64.wrap ((s[k].toNat : Nat) : Int) = ((s[k].toNat : Nat) : Int) := IntWalk.i64_in _ (by rw [hsk]; omega)
        have HQ := Lib.hid (show wrap64 (wrap64 (wrap64 (10 * n) + s[k].toNat) - 48) = (x.take (k + 1)).foldl stepR 0 by rw [w64, w64, w64, fold_next HC.out, stepR_no h45, hsk, ← HN.out])
        clear hsk h45 h64 e1
        go_wp2_with fail
        go_roundw
        case rel => exact ⟨k + 1, _, by omega, by go_num, rfl, HQ.out, by first | rfl | trivial⟩
        case measure => simp [intOf]; omega
    · obtain rfl : k = s.size := by omega
      have ht : x.take s.size = x := List.take_of_length_le (by have := HSZ.out; omega)
      by_cases h0 : 0 < s.size
      · have h0' : (0 : Int) < (s.size : Int) := by omega
        have d0 : decide ((0 : Int) < (s.size : Int)) = true := decide_eq_true h0'
        obtain ⟨c, hc, hsc⟩ := HB.out 0 (by have := HSZ.out; omega)
        rw [← HS.out] at hsc
        have hsk := hsc h0
        have hh : x.head? = some c := by rw [List.head?_eq_getElem?]; exact hc
        by_cases h45 : c = 45
        · have e1 : ((s[0].toNat : Int) == 45) = true := by rw [hsk, beq_45]; exact decide_eq_true h45
          have HR := Lib.hid (show numR x = wrap64 (-n) by unfold numR; rw [w64, hh, h45, if_pos rfl, HN.out, ht, Int.zero_sub])
          clear hsk hsc hc h45 hh h64 ht
          go_wp2_with fail
          go_ret
          refine ⟨?_, rfl⟩
          rw [HR.out]
          first | rfl | simp
        · have e1 : ((s[0].toNat : Int) == 45) = false := by rw [hsk, beq_45]; exact decide_eq_false h45
          have HR := Lib.hid (show numR x = n by unfold numR; rw [hh, if_neg (by simpa using h45), HN.out, ht])
          clear hsk hsc hc h45 hh h64 ht
          go_wp2_with fail
          go_ret
          exact ⟨by rw [HR.out]; rfl, rfl⟩
      · have d0 : decide ((0 : Int) < (s.size : Int)) = false := decide_eq_false (by omega)
        have hx0 : x = [] := List.length_eq_zero_iff.1 (by have := HSZ.out; omega)
        have HR := Lib.hid (show numR x = n by unfold numR; rw [HN.out, ht, hx0]; rfl)
        clear h64 ht hx0
        go_wp2_with fail
        go_ret
        exact ⟨by rw [HR.out]; rfl, rfl⟩
/-- words in memory. -/
def WdsAt (w : World) (B : Nat) (A : Option Addr) (ws : List Wd) : Prop := Sl w B A (ws.map wdV)
theorem WdsAt.at {w : World} {B : Nat} {A : Option Addr} {ws : List Wd} (h : WdsAt w B A ws) {i : Nat} {x : Wd} (hi : ws[i]? = some x) : ∃ b o, A = some ⟨b, o, none⟩ ∧ b < B ∧ w.cell? ⟨b, o + i, none⟩ = some (.string (bs x)) := by
  obtain ⟨b, o, e, hb, hc⟩ := h i (wdV x) (by rw [List.getElem?_map, hi]; rfl)
  exact ⟨b, o, e, hb, hc⟩
theorem atR_some {ws : List Wd} {i : Nat} {x : Wd} (h : ws[i]? = some x) : atR ws i = numR x := by
  unfold atR
  rw [h]
theorem atR_none {ws : List Wd} {i : Nat} (h : ws.length ≤ i) : atR ws i = 0 := by
  unfold atR
  rw [List.getElem?_eq_none h]
set_option maxRecDepth 100000 in
set_option maxHeartbeats 4000000 in
theorem at51_any (ws : List Wd) (A : Option Addr) (c i : Nat) (w : World) (B : Nat) (hat : WdsAt w B A ws) (hl : ∀ x ∈ ws, x.length ≤ 1000000000) (_hn : ws.length ≤ 1000000000) :
    Calls Tryz.prog 32 #[.slice A ws.length c, .int .i64 i] w fun e w' => e = .returned (.int .i64 (atR ws i)) ∧ w' = w := by
  have d0 : decide ((i : Int) < 0) = false := decide_eq_false (by omega)
  by_cases hi : i < ws.length
  · obtain ⟨x, hx⟩ : ∃ x, ws[i]? = some x := ⟨ws[i], by simp⟩
    obtain ⟨b, o, rfl, hb, hc⟩ := hat.at hx
    have d1 : decide ((ws.length : Int) ≤ (i : Int)) = false := decide_eq_false (by omega)
    have hlt : (i : Int) < (ws.length : Int) := by omega
    have HN := Lib.hid (number51_any x (hl x (List.mem_of_getElem? hx)) w)
    have HR := Lib.hid (atR_some hx)
    obtain ⟨n, hnn⟩ : ∃ n, n = ws.length := ⟨_, rfl⟩
    rw [← hnn] at hi _hn d1 hlt ⊢
    clear hx hl hat hb hnn
    go_enter Tryz.func32, Tryz.ntmps32
    go_wp2_with fail
    refine HN.out.mono ?_
    rintro e w1 ⟨rfl, rfl⟩
    go_wp2_with fail
    go_ret
    exact ⟨by rw [HR.out]; rfl, rfl⟩
  · have d1 : decide ((ws.length : Int) ≤ (i : Int)) = true := decide_eq_true (by omega)
    have HR := Lib.hid (atR_none (ws := ws) (i := i) (by omega))
    obtain ⟨n, hnn⟩ : ∃ n, n = ws.length := ⟨_, rfl⟩
    rw [← hnn] at hi _hn d1 ⊢
    clear hl hat hnn
    go_enter Tryz.func32, Tryz.ntmps32
    go_wp2_with fail
    go_ret
    exact ⟨by rw [HR.out]; rfl, rfl⟩
end Go.Proofs.YtakdkiggaalimaaGreatDoor
