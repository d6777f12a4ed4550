/-
  Plain: the bits of a number of 64 bits: their sum by halves (OnesCount64), the lowest one struck, the list of their places.
  No condition: plain lemmas.
-/
import Derived.Lib.TrailingZeros
import Derived.Laws.BitsAllLaws
namespace Go.Proofs.YtalfjcamjdmdjaaDoor

theorem and_split (t a c : Nat) {b d : Nat} (hb : b < 2 ^ t) (hd : d < 2 ^ t) : (2 ^ t * a + b) &&& (2 ^ t * c + d) = 2 ^ t * (a &&& c) + (b &&& d) := by
  apply Nat.eq_of_testBit_eq
  intro i
  have hbd : b &&& d < 2 ^ t := Nat.and_lt_two_pow _ hd
  rw [Nat.testBit_and, Nat.testBit_two_pow_mul_add a hb, Nat.testBit_two_pow_mul_add c hd, Nat.testBit_two_pow_mul_add _ hbd]
  split
  · rw [Nat.testBit_and]
  · rw [Nat.testBit_and]

/-- the sum of n digits to the base B. -/
def sd (B : Nat) : Nat → Nat → Nat
  | 0, _ => 0
  | n + 1, x => x % B + sd B n (x / B)
/-- a mask: n digits to the base B, each m. -/
def rep (B m : Nat) : Nat → Nat
  | 0 => 0
  | n + 1 => m + B * rep B m n
/-- neighbours added: by halves of each digit of 2 s bits. -/
def halve (s n x : Nat) : Nat := ((x / 2 ^ s) &&& rep (2 ^ (s + s)) (2 ^ s - 1) n) + (x &&& rep (2 ^ (s + s)) (2 ^ s - 1) n)
theorem mask_step (s n y : Nat) : y &&& rep (2 ^ (s + s)) (2 ^ s - 1) (n + 1) = 2 ^ (s + s) * ((y / 2 ^ (s + s)) &&& rep (2 ^ (s + s)) (2 ^ s - 1) n) + y % 2 ^ s := by
  have hp : 2 ^ s ≤ 2 ^ (s + s) := Nat.pow_le_pow_right (by decide) (by omega)
  have h0 : 0 < 2 ^ s := Nat.two_pow_pos s
  have h1 : 2 ^ s - 1 < 2 ^ (s + s) := by omega
  have h2 : y % 2 ^ (s + s) < 2 ^ (s + s) := Nat.mod_lt _ (Nat.two_pow_pos _)
  have e : y = 2 ^ (s + s) * (y / 2 ^ (s + s)) + y % 2 ^ (s + s) := (Nat.div_add_mod _ _).symm
  have := and_split (s + s) (y / 2 ^ (s + s)) (rep (2 ^ (s + s)) (2 ^ s - 1) n) h2 h1
  rw [← e] at this
  show y &&& ((2 ^ s - 1) + 2 ^ (s + s) * rep (2 ^ (s + s)) (2 ^ s - 1) n) = _
  rw [Nat.add_comm (2 ^ s - 1), this, Nat.and_two_pow_sub_one_eq_mod, Nat.mod_mod_of_dvd _ (Nat.pow_dvd_pow 2 (by omega))]
theorem halve_step (s n x : Nat) : halve s (n + 1) x = 2 ^ (s + s) * halve s n (x / 2 ^ (s + s)) + (x % 2 ^ s + x / 2 ^ s % 2 ^ s) := by
  unfold halve
  rw [mask_step, mask_step, Nat.mul_add, Nat.div_div_eq_div_mul, Nat.div_div_eq_div_mul, Nat.mul_comm (2 ^ s) (2 ^ (s + s))]
  omega
theorem sd_two (s n x : Nat) : sd (2 ^ s) (n + 1 + (n + 1)) x = (x % 2 ^ s + x / 2 ^ s % 2 ^ s) + sd (2 ^ s) (n + n) (x / 2 ^ (s + s)) := by
  rw [show n + 1 + (n + 1) = (n + n) + 1 + 1 by omega]
  simp only [sd]
  rw [Nat.div_div_eq_div_mul, ← Nat.pow_add]
  omega
theorem sum_lt (s x : Nat) (hs : 1 ≤ s) : x % 2 ^ s + x / 2 ^ s % 2 ^ s < 2 ^ (s + s) := by
  have h0 : 0 < 2 ^ s := Nat.two_pow_pos s
  have h1 := Nat.mod_lt x h0
  have h2 := Nat.mod_lt (x / 2 ^ s) h0
  have h3 : 2 ≤ 2 ^ s := by
    have := Nat.pow_le_pow_right (n := 2) (by decide) hs
    simpa using this
  have h4 : 2 * 2 ^ s ≤ 2 ^ s * 2 ^ s := Nat.mul_le_mul_right _ h3
  rw [← Nat.pow_add] at h4
  omega
theorem halve_sum (s : Nat) (hs : 1 ≤ s) : ∀ n x, sd (2 ^ (s + s)) n (halve s n x) = sd (2 ^ s) (n + n) x
  | 0, x => rfl
  | n + 1, x => by
    have hl := sum_lt s x hs
    rw [halve_step, sd_two]
    simp only [sd]
    rw [Nat.mul_add_mod, Nat.mod_eq_of_lt hl, Nat.mul_add_div (Nat.two_pow_pos _), Nat.div_eq_of_lt hl, Nat.add_zero, halve_sum s hs n]
theorem halve_lt (s : Nat) (hs : 1 ≤ s) : ∀ n x, halve s n x < (2 ^ (s + s)) ^ n
  | 0, x => by unfold halve rep; simp
  | n + 1, x => by
    have hl := sum_lt s x hs
    have ih := halve_lt s hs n (x / 2 ^ (s + s))
    rw [halve_step, Nat.pow_succ, Nat.mul_comm _ (2 ^ (s + s))]
    have h : 2 ^ (s + s) * (halve s n (x / 2 ^ (s + s)) + 1) ≤ 2 ^ (s + s) * (2 ^ (s + s)) ^ n := Nat.mul_le_mul_left _ (by omega)
    rw [Nat.mul_add] at h
    omega
/-- the number of bits. -/
def pop (x : Nat) : Nat := sd 2 64 x
/-- n digits to the base B, each at most m. -/
def dg (B m : Nat) : Nat → Nat → Prop
  | 0, _ => True
  | n + 1, x => x % B ≤ m ∧ dg B m n (x / B)
theorem dg_bits : ∀ n x, dg 2 1 n x
  | 0, _ => trivial
  | n + 1, x => ⟨by omega, dg_bits n _⟩
theorem dg_halve (s : Nat) (hs : 1 ≤ s) (m : Nat) : ∀ n x, dg (2 ^ s) m (n + n) x → dg (2 ^ (s + s)) (m + m) n (halve s n x)
  | 0, _, _ => trivial
  | n + 1, x, h => by
    rw [show n + 1 + (n + 1) = (n + n) + 1 + 1 by omega] at h
    obtain ⟨h1, h2, h3⟩ := h
    have hl := sum_lt s x hs
    rw [halve_step]
    refine ⟨?_, ?_⟩
    · rw [Nat.mul_add_mod, Nat.mod_eq_of_lt hl]
      omega
    · rw [Nat.mul_add_div (Nat.two_pow_pos _), Nat.div_eq_of_lt hl, Nat.add_zero]
      rw [Nat.div_div_eq_div_mul, ← Nat.pow_add] at h3
      exact dg_halve s hs m n _ h3
/-- the third step, where no digit runs over. -/
theorem third : ∀ n x, dg 16 4 (n + n) x → ((x / 16 + x) &&& rep 256 15 n) = halve 4 n x
  | 0, x, _ => by unfold halve rep; simp
  | n + 1, x, h => by
    rw [show n + 1 + (n + 1) = (n + n) + 1 + 1 by omega] at h
    obtain ⟨h1, h2, h3⟩ := h
    have h3' : dg 16 4 (n + n) (x / 256) := by
      rw [Nat.div_div_eq_div_mul] at h3
      exact h3
    have ih := third n (x / 256) h3'
    have hm := mask_step 4 n (x / 16 + x)
    have hh := halve_step 4 n x
    simp only [Nat.reducePow, Nat.reduceAdd, Nat.reduceSub] at hm hh
    rw [hm, hh]
    cases n with
    | zero =>
      unfold halve rep
      simp
      omega
    | succ n =>
      rw [show n + 1 + (n + 1) = (n + n) + 1 + 1 by omega] at h3'
      have h4 := h3'.1
      have e : (x / 16 + x) / 256 = x / 256 / 16 + x / 256 := by
        obtain ⟨q, hq⟩ : ∃ q, q = x / 256 := ⟨_, rfl⟩
        obtain ⟨a, ha⟩ : ∃ a, a = x / 16 % 16 := ⟨_, rfl⟩
        obtain ⟨b, hb⟩ : ∃ b, b = x % 16 := ⟨_, rfl⟩
        obtain ⟨c, hc⟩ : ∃ c, c = q % 16 := ⟨_, rfl⟩
        obtain ⟨d, hd⟩ : ∃ d, d = q / 16 := ⟨_, rfl⟩
        have e1 : x = 256 * q + 16 * a + b := by omega
        have e2 : x / 16 = 16 * q + a := by omega
        have e3 : q = 16 * d + c := by omega
        rw [← hq, ← hd, e2]
        rw [← hb] at h1
        rw [← ha] at h2
        rw [← hq, ← hc] at h4
        clear ha hb hc hd hq ih hm hh h3 h3' e2
        omega
      rw [e, ih]
      omega
theorem bytes_low {x q1 q2 q3 q4 q5 q6 q7 : Nat} (a0 : x % 256 ≤ 8) (a1 : q1 % 256 ≤ 8) (a2 : q2 % 256 ≤ 8) (a3 : q3 % 256 ≤ 8) (a4 : q4 % 256 ≤ 8) (a5 : q5 % 256 ≤ 8) (a6 : q6 % 256 ≤ 8) (a7 : q7 ≤ 8)
    (e1 : q1 = x / 256) (e2 : q2 = q1 / 256) (e3 : q3 = q2 / 256) (e4 : q4 = q3 / 256) (e5 : q5 = q4 / 256) (e6 : q6 = q5 / 256) (e7 : q7 = q6 / 256) :
    x ≤ 578721382704613384 ∧ (x + q1) / 65536 = q2 + q3 ∧ (x + q1 + (q2 + q3)) / 4294967296 = q4 + q5 + q6 + q7 ∧ q1 ≤ 2260630401189896 ∧ q2 ≤ 8830587504648 ∧ q3 ≤ 34494482440 ∧ q4 ≤ 134744072 ∧ q5 ≤ 526344 ∧ q6 ≤ 2056 := by
  have b6 : q6 ≤ 2056 := by omega
  have b5 : q5 ≤ 526344 := by clear e1 e2 e3 e4 e5; omega
  have b4 : q4 ≤ 134744072 := by clear e1 e2 e3 e4 e6 e7; omega
  have b3 : q3 ≤ 34494482440 := by clear e1 e2 e3 e5 e6 e7; omega
  have b2 : q2 ≤ 8830587504648 := by clear e1 e2 e4 e5 e6 e7; omega
  have b1 : q1 ≤ 2260630401189896 := by clear e1 e3 e4 e5 e6 e7; omega
  have b0 : x ≤ 578721382704613384 := by clear e2 e3 e4 e5 e6 e7; omega
  have s1 : x = 256 * q1 + x % 256 := by rw [e1]; exact (Nat.div_add_mod x 256).symm
  have s2 : q1 = 256 * q2 + q1 % 256 := by rw [e2]; exact (Nat.div_add_mod q1 256).symm
  have s3 : q2 = 256 * q3 + q2 % 256 := by rw [e3]; exact (Nat.div_add_mod q2 256).symm
  have s4 : q3 = 256 * q4 + q3 % 256 := by rw [e4]; exact (Nat.div_add_mod q3 256).symm
  have s5 : q4 = 256 * q5 + q4 % 256 := by rw [e5]; exact (Nat.div_add_mod q4 256).symm
  have s6 : q5 = 256 * q6 + q5 % 256 := by rw [e6]; exact (Nat.div_add_mod q5 256).symm
  have s7 : q6 = 256 * q7 + q6 % 256 := by rw [e7]; exact (Nat.div_add_mod q6 256).symm
  clear e1 e2 e3 e4 e5 e6 e7
  generalize x % 256 = c0 at *
  generalize q1 % 256 = c1 at *
  generalize q2 % 256 = c2 at *
  generalize q3 % 256 = c3 at *
  generalize q4 % 256 = c4 at *
  generalize q5 % 256 = c5 at *
  generalize q6 % 256 = c6 at *
  refine ⟨b0, ?_, ?_, b1, b2, b3, b4, b5, b6⟩
  · clear b0 b1 b2 b3 b4 b5 b6 s4 s5 s6 s7
    omega
  · clear b0 b1 b2 b3 b4 b5 b6
    omega
theorem bytes_sum (x : Nat) (hx : x < 18446744073709551616) (h : dg 256 8 8 x) :
    ∃ q1 q2 q3 q4 q5 q6 q7, q1 = x / 256 ∧ (x + q1) / 65536 = q2 + q3 ∧ (x + q1 + (q2 + q3)) / 4294967296 = q4 + q5 + q6 + q7 ∧ x + q1 + q2 + q3 + q4 + q5 + q6 + q7 ≤ 600000000000000000 ∧
    (x + q1 + (q2 + q3) + (q4 + q5 + q6 + q7)) % 128 = sd 256 8 x ∧ sd 256 8 x ≤ 64 := by
  simp only [dg, and_true] at h
  obtain ⟨a0, a1, a2, a3, a4, a5, a6, a7⟩ := h
  simp only [sd]
  obtain ⟨q1, e1⟩ : ∃ q, q = x / 256 := ⟨_, rfl⟩
  rw [← e1] at a1 a2 a3 a4 a5 a6 a7 ⊢
  obtain ⟨q2, e2⟩ : ∃ q, q = q1 / 256 := ⟨_, rfl⟩
  rw [← e2] at a2 a3 a4 a5 a6 a7 ⊢
  obtain ⟨q3, e3⟩ : ∃ q, q = q2 / 256 := ⟨_, rfl⟩
  rw [← e3] at a3 a4 a5 a6 a7 ⊢
  obtain ⟨q4, e4⟩ : ∃ q, q = q3 / 256 := ⟨_, rfl⟩
  rw [← e4] at a4 a5 a6 a7 ⊢
  obtain ⟨q5, e5⟩ : ∃ q, q = q4 / 256 := ⟨_, rfl⟩
  rw [← e5] at a5 a6 a7 ⊢
  obtain ⟨q6, e6⟩ : ∃ q, q = q5 / 256 := ⟨_, rfl⟩
  rw [← e6] at a6 a7 ⊢
  obtain ⟨q7, e7⟩ : ∃ q, q = q6 / 256 := ⟨_, rfl⟩
  rw [← e7] at a7 ⊢
  have hq7 : q7 < 256 := by
    rw [e7, e6, e5, e4, e3, e2, e1]
    simp only [Nat.div_div_eq_div_mul]
    exact Nat.div_lt_of_lt_mul (by simpa using hx)
  have e8 : q7 % 256 = q7 := Nat.mod_eq_of_lt hq7
  rw [e8] at a7 ⊢
  have b7 := a7
  obtain ⟨b0, f1, f2, b1, b2, b3, b4, b5, b6⟩ := bytes_low a0 a1 a2 a3 a4 a5 a6 b7 e1 e2 e3 e4 e5 e6 e7
  refine ⟨q1, q2, q3, q4, q5, q6, q7, rfl, f1, f2, by omega, ?_, ?_⟩
  · have s1 : x = 256 * q1 + x % 256 := by rw [e1]; exact (Nat.div_add_mod x 256).symm
    have s2 : q1 = 256 * q2 + q1 % 256 := by rw [e2]; exact (Nat.div_add_mod q1 256).symm
    have s3 : q2 = 256 * q3 + q2 % 256 := by rw [e3]; exact (Nat.div_add_mod q2 256).symm
    have s4 : q3 = 256 * q4 + q3 % 256 := by rw [e4]; exact (Nat.div_add_mod q3 256).symm
    have s5 : q4 = 256 * q5 + q4 % 256 := by rw [e5]; exact (Nat.div_add_mod q4 256).symm
    have s6 : q5 = 256 * q6 + q5 % 256 := by rw [e6]; exact (Nat.div_add_mod q5 256).symm
    have s7 : q6 = 256 * q7 + q6 % 256 := by rw [e7]; exact (Nat.div_add_mod q6 256).symm
    clear e1 e2 e3 e4 e5 e6 e7 f1 f2 b0 b1 b2 b3 b4 b5 b6 hx
    generalize x % 256 = c0 at *
    generalize q1 % 256 = c1 at *
    generalize q2 % 256 = c2 at *
    generalize q3 % 256 = c3 at *
    generalize q4 % 256 = c4 at *
    generalize q5 % 256 = c5 at *
    generalize q6 % 256 = c6 at *
    omega
  · clear e1 e2 e3 e4 e5 e6 e7 f1 f2 b0 b1 b2 b3 b4 b5 b6 hx
    omega
/-- what OnesCount64 computes. -/
theorem ones_val (x : Nat) :
    sd 256 8 (((halve 2 16 (halve 1 32 x)) / 16 + halve 2 16 (halve 1 32 x)) &&& rep 256 15 8) = pop x ∧ dg 256 8 8 (((halve 2 16 (halve 1 32 x)) / 16 + halve 2 16 (halve 1 32 x)) &&& rep 256 15 8) := by
  have d1 := dg_halve 1 (by decide) 1 32 x (dg_bits _ _)
  have d2 := dg_halve 2 (by decide) 2 16 _ d1
  have t := third 8 _ d2
  have d3 := dg_halve 4 (by decide) 4 8 _ d2
  have s1 := halve_sum 1 (by decide) 32 x
  have s2 := halve_sum 2 (by decide) 16 (halve 1 32 x)
  have s3 := halve_sum 4 (by decide) 8 (halve 2 16 (halve 1 32 x))
  rw [t]
  refine ⟨?_, d3⟩
  unfold pop
  exact (s3.trans s2).trans s1
end Go.Proofs.YtalfjcamjdmdjaaDoor
