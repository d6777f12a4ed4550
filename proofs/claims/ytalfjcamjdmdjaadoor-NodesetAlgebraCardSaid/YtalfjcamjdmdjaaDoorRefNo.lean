/-
  samaritanref02.number: the leading digits, at most four.
-/
import Derived.Test.YtalfjcamjdmdjaaDoorRefTy
namespace Go.Proofs.YtalfjcamjdmdjaaDoor
open Go.RowKit

/-- the first k bytes are the leading digits, at most four. -/
structure Lead (l : List UInt8) (k : Nat) : Prop where
  le : k ≤ l.length
  four : k ≤ 4
  dig : ∀ c ∈ l.take k, isDig c
  stop : k = 4 ∨ ∀ c, l[k]? = some c → ¬ isDig c
theorem Lead.le_of {l : List UInt8} {k j : Nat} (h : Lead l k) (hj : j ≤ l.length) (h4 : j ≤ 4) (hd : ∀ c ∈ l.take j, isDig c) : j ≤ k := by
  rcases Nat.lt_or_ge k j with q | q
  · rcases h.stop with e | e
    · omega
    · have hk : k < l.length := by omega
      exact absurd (hd l[k] (List.mem_iff_getElem?.2 ⟨k, by rw [List.getElem?_take, if_pos q]; exact List.getElem?_eq_getElem hk⟩)) (e _ (List.getElem?_eq_getElem hk))
  · exact q
theorem Lead.one {l : List UInt8} {k j : Nat} (h : Lead l k) (h' : Lead l j) : k = j := Nat.le_antisymm (h'.le_of h.le h.four h.dig) (h.le_of h'.le h'.four h'.dig)
theorem val_lt : ∀ (l : List UInt8) (a : Nat), (∀ c ∈ l, isDig c) → valFrom a l < (a + 1) * 10 ^ l.length
  | [], a, _ => by rw [valFrom_nil]; simp
  | c :: l, a, h => by
    have hc := h c (by simp)
    unfold isDig at hc
    rw [valFrom_cons, List.length_cons, Nat.pow_succ]
    refine Nat.lt_of_lt_of_le (val_lt l _ fun x hx => h x (by simp [hx])) ?_
    rw [Nat.mul_comm (10 ^ l.length) 10, ← Nat.mul_assoc]
    exact Nat.mul_le_mul_right _ (by omega)
theorem lead_val {l : List UInt8} {k : Nat} (h4 : k ≤ 4) (hd : ∀ c ∈ l.take k, isDig c) : valFrom 0 (l.take k) < 10000 := by
  have h1 := val_lt (l.take k) 0 hd
  have h2 : (10 : Nat) ^ (l.take k).length ≤ 10 ^ 4 := Nat.pow_le_pow_right (by decide) (by rw [List.length_take]; omega)
  have h3 : (10 : Nat) ^ 4 = 10000 := by decide
  omega
theorem val_snoc {l : List UInt8} {k : Nat} {c : UInt8} (h : l[k]? = some c) (a : Nat) : valFrom a (l.take (k + 1)) = valFrom a (l.take k) * 10 + (c.toNat - 48) := by
  obtain ⟨h1, h2⟩ := List.getElem?_eq_some_iff.1 h
  rw [List.take_succ_eq_append_getElem h1, h2, valFrom_append, valFrom_one]
theorem dig_snoc {l : List UInt8} {k : Nat} {c : UInt8} (h : l[k]? = some c) (hd : ∀ c ∈ l.take k, isDig c) (hc : isDig c) : ∀ c ∈ l.take (k + 1), isDig c := by
  obtain ⟨h1, h2⟩ := List.getElem?_eq_some_iff.1 h
  rw [List.take_succ_eq_append_getElem h1, h2]
  intro x hx
  rcases List.mem_append.1 hx with hx | hx
  · exact hd x hx
  · rw [List.mem_singleton.1 hx]
    exact hc
/-- what number returns. -/
def RetNo (l : List UInt8) (w : World) (e : Ending) (w' : World) : Prop := ∃ k, Lead l k ∧ e = .returned (.tuple #[.int .i64 (valFrom 0 (l.take k) : Nat), .int .i64 (k : Nat)]) ∧ Below w.heap.size w w'
theorem byte_sub (c : UInt8) (h : 48 ≤ c.toNat) : (IntKind.u8.wrap ((c.toNat : Int) - 48)) = ((c.toNat - 48 : Nat) : Int) := by
  have := c.toNat_lt
  rw [IntWalk.u8_in _ (by omega)]
  omega
set_option maxRecDepth 100000 in
set_option maxHeartbeats 4000000 in
theorem number_any (s : ByteArray) (hs : s.size ≤ 1099511627) (w : World) : Calls Tryd.prog 43 #[.string s] w (RetNo s.data.toList w) := by
  go_enter Tryd.func43, Tryd.ntmps43
  go_wp2_with fail
  go_loopw [4, 5] (fun nv i X => ∃ k : Nat, k ≤ s.size ∧ k ≤ 4 ∧ i = .int .i64 k ∧ nv = .int .i64 (valFrom 0 (s.data.toList.take k) : Nat) ∧ (∀ c ∈ s.data.toList.take k, isDig c) ∧ Below w.heap.size w X) (fun _ i _ => 4 - (intOf i).toNat)
  case atStart => exact ⟨0, by omega, by omega, rfl, rfl, by simp, Below.refl _ _⟩
  case round =>
    obtain ⟨k, hk, h4, rfl, rfl, hd, hb⟩ := hrel
    have hv := lead_val h4 hd
    have HS := Lib.hid (And.intro hd hb)
    have HSZ := Lib.hid (show s.data.toList.length = s.size by simp)
    clear hd hb
    by_cases hlt : k < s.size
    · have hlt' : (k : Int) < (s.size : Int) := by omega
      have HC := Lib.hid (show s.data.toList[k]? = some s[k] by rw [List.getElem?_eq_getElem (by rw [HSZ.out]; exact hlt)]; rfl)
      by_cases hk4 : k < 4
      · have hk4' : (k : Int) < 4 := by omega
        have HV := Lib.hid (val_snoc HC.out 0)
        by_cases hc1 : 48 ≤ s[k].toNat
        · have hc1' : (48 : Int) ≤ (s[k].toNat : Int) := by omega
          by_cases hc2 : s[k].toNat ≤ 57
          · have hc2' : (s[k].toNat : Int) ≤ 57 := by omega
            have hw := byte_sub s[k] hc1
            obtain ⟨V, hV⟩ : ∃ V, V = valFrom 0 (s.data.toList.take k) := ⟨_, rfl⟩
            have HVV := Lib.hid hV
            rw [← hV] at hv ⊢
            clear hV
            go_wp2_with fail
            go_roundw
            case rel =>
              refine ⟨k + 1, by omega, by omega, by go_num, ?_, dig_snoc HC.out HS.out.1 ⟨hc1, hc2⟩, HS.out.2⟩
              rw [HV.out, ← HVV.out]
              go_num
            case measure => simp [intOf]; omega
          · have hc2' : ¬ (s[k].toNat : Int) ≤ 57 := by omega
            obtain ⟨V, hV⟩ : ∃ V, V = valFrom 0 (s.data.toList.take k) := ⟨_, rfl⟩
            have HVV := Lib.hid hV
            rw [← hV] at hv ⊢
            clear hV
            go_wp2_with fail
            go_ret2
            exact ⟨k, ⟨by rw [HSZ.out]; exact hk, h4, HS.out.1, .inr fun c hc => by rw [HC.out] at hc; injection hc with hc; rw [← hc]; exact fun h => hc2 h.2⟩, by rw [← HVV.out]; rfl, HS.out.2⟩
        · have hc1' : ¬ (48 : Int) ≤ (s[k].toNat : Int) := by omega
          obtain ⟨V, hV⟩ : ∃ V, V = valFrom 0 (s.data.toList.take k) := ⟨_, rfl⟩
          have HVV := Lib.hid hV
          rw [← hV] at hv ⊢
          clear hV
          go_wp2_with fail
          go_ret2
          exact ⟨k, ⟨by rw [HSZ.out]; exact hk, h4, HS.out.1, .inr fun c hc => by rw [HC.out] at hc; injection hc with hc; rw [← hc]; exact fun h => hc1 h.1⟩, by rw [← HVV.out]; rfl, HS.out.2⟩
      · have hk4' : ¬ (k : Int) < 4 := by omega
        obtain ⟨V, hV⟩ : ∃ V, V = valFrom 0 (s.data.toList.take k) := ⟨_, rfl⟩
        have HVV := Lib.hid hV
        rw [← hV] at hv ⊢
        clear hV
        go_wp2_with fail
        go_ret2
        exact ⟨k, ⟨by rw [HSZ.out]; exact hk, h4, HS.out.1, .inl (by omega)⟩, by rw [← HVV.out]; rfl, HS.out.2⟩
    · have hlt' : ¬ (k : Int) < (s.size : Int) := by omega
      obtain ⟨V, hV⟩ : ∃ V, V = valFrom 0 (s.data.toList.take k) := ⟨_, rfl⟩
      have HVV := Lib.hid hV
      rw [← hV] at hv ⊢
      clear hV
      go_wp2_with fail
      go_ret2
      exact ⟨k, ⟨by rw [HSZ.out]; exact hk, h4, HS.out.1, .inr fun c hc => by have := (List.getElem?_eq_some_iff.1 hc).1; rw [HSZ.out] at this; omega⟩, by rw [← HVV.out]; rfl, HS.out.2⟩
end Go.Proofs.YtalfjcamjdmdjaaDoor
