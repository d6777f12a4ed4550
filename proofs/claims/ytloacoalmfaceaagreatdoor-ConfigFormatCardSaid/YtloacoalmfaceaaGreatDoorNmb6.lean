/-
  config.number and config.numbers at texts of numbers.
-/
import Derived.Test.YtloacoalmfaceaaGreatDoorSpl6
namespace Go.Proofs.YtloacoalmfaceaaGreatDoor
open Go.RowKit Go.Maps Go.Shelf

theorem dec_le {m : Nat} {z : Int} (h : z.toNat < 10 ^ m) (hm : 0 < m) : (dec z).length ≤ m := by
  have : ∀ (m n : Nat), n < 10 ^ m → 0 < m → (Lib.decDigits n).length ≤ m := by
    intro m
    induction m with
    | zero => intro n _ h; omega
    | succ m ih =>
      intro n hn _
      by_cases h : n < 10
      · rw [dec_small h]; simp
      · rw [dec_big h, List.length_append]
        have hp : (10:Nat) ^ (m + 1) = 10 ^ m * 10 := Nat.pow_succ ..
        have h1 : n / 10 < 10 ^ m := by omega
        have hm : 0 < m := by
          rcases Nat.eq_zero_or_pos m with e | e
          · subst e; simp at hn; omega
          · exact e
        have := ih (n / 10) h1 hm
        simp
        omega
  exact this m z.toNat h hm
theorem dec_head (n : Nat) : 0 < n → ∃ c r, Lib.decDigits n = c :: r ∧ c ≠ 48 := by
  induction n using Nat.strongRecOn with
  | _ n ih =>
    intro hn
    by_cases h : n < 10
    · refine ⟨UInt8.ofNat (48 + n), [], dec_small h, fun e => ?_⟩
      have h1 := dig_toNat h
      rw [e] at h1
      have : (48 : UInt8).toNat = 48 := rfl
      omega
    · obtain ⟨c, r, e, hc⟩ := ih (n / 10) (by omega) (by omega)
      exact ⟨c, r ++ [UInt8.ofNat (48 + n % 10)], by rw [dec_big h, e]; rfl, hc⟩
/-- what number asks of a word. -/
structure Numb (s : ByteArray) (v : Int) : Prop where
  one : 1 ≤ s.size
  top : s.size ≤ 18
  dig : ∀ c ∈ s.data.toList, 48 ≤ c.toNat ∧ c.toNat ≤ 57
  head : ∀ h : 0 < s.size, s[0] = 48 → s.size = 1
  val : Lib.parseIntB 64 s.data.toList = .ok v
theorem numb_dec {z : Int} (h0 : 0 ≤ z) (h1 : z < 1000000000000000000) : Numb (bs (dec z)) z := by
  have hl := dec_le (m := 18) (z := z) (by omega) (by omega)
  have hne := dec_ne z.toNat
  refine ⟨?_, by rw [bs_size]; exact hl, fun c hc => ?_, fun h e => ?_, ?_⟩
  · rw [bs_size]
    exact List.length_pos_iff.2 hne
  · rw [bs_data] at hc
    exact dec_dig z.toNat c hc
  · rw [bs_size]
    by_cases hz : z.toNat < 10
    · unfold dec
      rw [dec_small hz]
      rfl
    · obtain ⟨c, r, e1, hc⟩ := dec_head z.toNat (by omega)
      have e2 := byte_at h
      rw [e, bs_data] at e2
      have e3 : dec z = c :: r := e1
      rw [e3] at e2
      simp only [List.getElem?_cons_zero, Option.some.injEq] at e2
      exact absurd e2 hc
  · rw [bs_data]
    have := int_dec (n := z.toNat) (by omega)
    rw [Int.toNat_of_nonneg h0] at this
    exact this
set_option maxRecDepth 100000 in
set_option maxHeartbeats 4000000 in
theorem number_any (s : ByteArray) (v : Int) (h : Numb s v) (w : World) : Calls Tryz.prog 88 #[.string s] w fun e w' => e = .returned (.tuple #[.int .i64 v, .bool true]) ∧ Below w.heap.size w w' := by
  have h1 := h.one
  have h18 := h.top
  have hp : 0 < s.size := h1
  have HH := Lib.hid h
  have d1 : decide ((s.size : Int) < 1) = false := decide_eq_false (by omega)
  have d2 : decide ((18 : Int) < (s.size : Int)) = false := decide_eq_false (by omega)
  have HP := Lib.hid (Tryz.strconv_ParseInt_10_at64_ok s (by omega) v h.val)
  obtain ⟨b, hb⟩ : ∃ b, b = ((s[0].toNat : Int) == 48) := ⟨_, rfl⟩
  have key : Calls Tryz.prog 88 #[.string s] w fun e w' => e = .returned (.tuple #[.int .i64 v, .bool true]) ∧ Below w.heap.size w w' := by
    have HBI : Hid (b = true → decide ((1 : Int) < (s.size : Int)) = false) := Lib.hid (fun e => by
      rw [e] at hb
      have e1 : (s[0].toNat : Int) = 48 := beq_iff_eq.1 hb.symm
      have e2 : s[0] = 48 := UInt8.toNat_inj.1 (by have : (48 : UInt8).toNat = 48 := rfl; omega)
      exact decide_eq_false (by have := HH.out.head hp e2; omega))
    have hb' := hb.symm
    clear hb h
    cases b
    · clear HBI
      go_enter Tryz.func88, Tryz.ntmps88
      go_wp2_with fail
      go_loopw [27] (fun i X => ∃ k : Nat, k ≤ s.size ∧ i = .int .i64 k ∧ X = w) (fun i _ => s.size - (intOf i).toNat)
      case atStart => exact ⟨0, by omega, rfl, rfl⟩
      case round =>
        obtain ⟨k, hk, rfl, rfl⟩ := hrel
        by_cases hlt : k < s.size
        · have hlt' : (k : Int) < (s.size : Int) := by omega
          have hc := HH.out.dig _ (List.mem_of_getElem? (byte_at hlt))
          have c1 : decide ((s[k].toNat : Int) < 48) = false := decide_eq_false (by omega)
          have c2 : decide ((57 : Int) < (s[k].toNat : Int)) = false := decide_eq_false (by omega)
          clear hc hb'
          go_wp2_with fail
          go_roundw
          case rel => exact ⟨k + 1, by omega, by go_num, trivial⟩
          case measure => simp [intOf]; omega
        · have hkk : k = s.size := by omega
          subst hkk
          clear hb'
          go_wp2_with fail
          refine (HP.out _).mono ?_
          rintro e w' ⟨rfl, hw⟩
          have HB := Lib.hid (show Below wr.heap.size wr w' from by
            rcases hw with rfl | ⟨t, rfl⟩
            · exact Below.refl _ _
            · exact Lib.bytesWorld_below _ _ _)
          clear hw
          go_wp2_with fail
          go_quiet (fail)
          go_wp2_with fail
          go_ret2
          exact ⟨rfl, below_dr HB.out _⟩
    · have d3 := HBI.out rfl
      clear HBI
      go_enter Tryz.func88, Tryz.ntmps88
      go_wp2_with fail
      go_loopw [27] (fun i X => ∃ k : Nat, k ≤ s.size ∧ i = .int .i64 k ∧ X = w) (fun i _ => s.size - (intOf i).toNat)
      case atStart => exact ⟨0, by omega, rfl, rfl⟩
      case round =>
        obtain ⟨k, hk, rfl, rfl⟩ := hrel
        by_cases hlt : k < s.size
        · have hlt' : (k : Int) < (s.size : Int) := by omega
          have hc := HH.out.dig _ (List.mem_of_getElem? (byte_at hlt))
          have c1 : decide ((s[k].toNat : Int) < 48) = false := decide_eq_false (by omega)
          have c2 : decide ((57 : Int) < (s[k].toNat : Int)) = false := decide_eq_false (by omega)
          clear hc hb'
          go_wp2_with fail
          go_roundw
          case rel => exact ⟨k + 1, by omega, by go_num, trivial⟩
          case measure => simp [intOf]; omega
        · have hkk : k = s.size := by omega
          subst hkk
          clear hb'
          go_wp2_with fail
          refine (HP.out _).mono ?_
          rintro e w' ⟨rfl, hw⟩
          have HB := Lib.hid (show Below wr.heap.size wr w' from by
            rcases hw with rfl | ⟨t, rfl⟩
            · exact Below.refl _ _
            · exact Lib.bytesWorld_below _ _ _)
          clear hw
          go_wp2_with fail
          go_quiet (fail)
          go_wp2_with fail
          go_ret2
          exact ⟨rfl, below_dr HB.out _⟩
  exact key
end Go.Proofs.YtloacoalmfaceaaGreatDoor
