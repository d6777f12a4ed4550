/-
  The line of a change as a text: its three words; what reads it back.
  No condition: plain lemmas.
-/
import Derived.Test.YtppbmnlneoinhaaDoorCuts
import Derived.Test.YtppbmnlneoinhaaDoorFmtC
import Derived.Lib.Strings
namespace Go.Proofs.YtppbmnlneoinhaaDoor

/-- the words of a change's line. -/
def wordsC (c : ChgT) : List (List UInt8) := [Lib.itoa c.tick, Lib.itoa c.edge, timeText c.time]
theorem line_join (c : ChgT) : lineC c = Lib.join (wordsC c) [32] ++ [10] := by
  unfold lineC wordsC
  rw [join_two, join_two, Lib.join_one]
  simp
theorem itoa_nat {n : Int} (h : 0 ≤ n) : Lib.itoa n = Lib.decDigits n.toNat := by
  unfold Lib.itoa
  rw [if_neg (by omega)]
theorem dig_blank {n : Nat} {x : UInt8} (h : ¬ isDig x) : x ∉ Lib.decDigits n := fun hm => h (dec_dig n x hm)
/-- a change that can be read. -/
def okR (c : ChgT) : Prop := (0 ≤ c.tick ∧ c.tick ≤ 1099511627776 ∧ 0 ≤ c.edge ∧ c.edge ≤ 1099511627776) ∧ ((1 ≤ c.time ∧ c.time ≤ 1048576) ∨ c.time = 4611686018427387904)
theorem okR_of {m : Nat} (hm : m ≤ 1099511627776) {c : ChgT} (h : okC m c) : okR c := by
  unfold okC at h
  unfold okR
  omega
theorem words_clean {c : ChgT} (h : okR c) (x : UInt8) (hx : x = 32 ∨ x = 10) : ∀ p ∈ wordsC c, x ∉ p := by
  have hd : ¬ isDig x := by rcases hx with rfl | rfl <;> (unfold isDig; decide)
  intro p hp
  unfold wordsC at hp
  simp only [List.mem_cons, List.not_mem_nil, or_false] at hp
  unfold okR at h
  rcases hp with rfl | rfl | rfl
  · rw [itoa_nat h.1.1]; exact dig_blank hd
  · rw [itoa_nat h.1.2.2.1]; exact dig_blank hd
  · unfold timeText
    split
    · rcases hx with rfl | rfl <;> decide
    · rw [itoa_nat (by omega)]; exact dig_blank hd
theorem read_itoa {n : Int} (h0 : 0 ≤ n) (h1 : n ≤ 4611686018427387904) : Lib.parseIntB 64 (Lib.itoa n) = .ok n := by
  rw [itoa_nat h0, int_dec (by omega)]
  congr 1
  omega
theorem trim_line (x : List UInt8) : Lib.trimSuffix (x ++ [10]) [10] = x := by
  unfold Lib.trimSuffix Lib.hasSuffix
  rw [if_pos (by simp)]
  simp
theorem mag_ok : ∀ (l : List UInt8) (acc : Nat), (∀ c ∈ l, isDig c) → valFrom acc l < 18446744073709551616 → Lib.parseUint10 acc l = .ok (valFrom acc l) := by
  intro l
  induction l with
  | nil => intro acc _ _; rw [valFrom_nil]; rfl
  | cons c t ih =>
    intro acc hd hv
    have hc : isDig c := hd c (by simp)
    have h1 := valFrom_ge t (acc * 10 + (c.toNat - 48))
    rw [valFrom_cons] at hv ⊢
    unfold isDig at hc
    simp only [Lib.parseUint10]
    rw [if_pos hc, if_neg (by omega), if_neg (by omega)]
    exact ih _ (fun x hx => hd x (by simp [hx])) hv
theorem atoi_itoa {n : Int} (h0 : 0 ≤ n) (h1 : n ≤ 4611686018427387904) : Lib.atoiAll (Lib.itoa n) = .ok n := by
  rw [itoa_nat h0]
  obtain ⟨c, r, hcr⟩ := List.exists_cons_of_ne_nil (dec_ne n.toNat)
  have hd := dec_dig n.toNat
  have hv := val_dec n.toNat
  rw [hcr] at hd hv ⊢
  have hc : isDig c := hd c (by simp)
  have h43 : ¬ (c.toNat = 43 ∨ c.toNat = 45) := by unfold isDig at hc; omega
  have h45 : ¬ c.toNat = 45 := by unfold isDig at hc; omega
  have hu : Lib.parseMag (c :: r) = .ok n.toNat := by
    unfold Lib.parseMag
    rw [if_neg (by simp)]
    rw [mag_ok _ 0 hd (by omega), hv]
  unfold Lib.atoiAll
  simp only
  rw [if_neg h43, hu]
  simp only
  rw [if_neg (by omega), if_neg (fun q => h45 q.1), if_neg h45]
  congr 1
  omega
theorem itoa_inj {a b : Int} (ha : 0 ≤ a) (hb : 0 ≤ b) (h : Lib.itoa a = Lib.itoa b) : a = b := by
  rw [itoa_nat ha, itoa_nat hb] at h
  have := dec_inj h
  omega
theorem int_range {l : List UInt8} {v : Int} (h : Lib.parseIntB 64 l = .ok v) : -9223372036854775808 ≤ v ∧ v ≤ 9223372036854775807 := by
  have h63 : (2 : Nat) ^ (64 - 1) = 9223372036854775808 := by decide
  cases l with
  | nil => cases h
  | cons c r =>
    unfold Lib.parseIntB at h
    simp only at h
    split at h
    · cases h
    · cases h
    · split at h
      · cases h
      · split at h
        · cases h
        · injection h with h
          rw [h63] at *
          split at h <;> omega
theorem atoi_range {l : List UInt8} {v : Int} (h : Lib.atoiAll l = .ok v) : -9223372036854775808 ≤ v ∧ v ≤ 9223372036854775807 := by
  cases l with
  | nil => cases h
  | cons c r =>
    unfold Lib.atoiAll at h
    simp only at h
    split at h
    · cases h
    · cases h
    · split at h
      · cases h
      · split at h
        · cases h
        · injection h with h
          split at h <;> omega
end Go.Proofs.YtppbmnlneoinhaaDoor
