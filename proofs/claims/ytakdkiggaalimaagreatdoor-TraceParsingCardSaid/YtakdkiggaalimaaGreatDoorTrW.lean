/-
  Words of a line, cut at single blanks; canonical numerals. Plain lemmas on lists of bytes.
-/
import Derived.Test.YtakdkiggaalimaaGreatDoorNum
import Derived.Lib.ParseIntBCases
import Derived.Lib.ParseIntBTie
import Derived.Lib.ItoaLen
import Derived.Lib.Join
namespace Go.Proofs.YtakdkiggaalimaaGreatDoor
open Go.Lib

abbrev Wd := List UInt8
def Is64 (v : Int) : Prop := -9223372036854775808 ≤ v ∧ v ≤ 9223372036854775807
instance (v : Int) : Decidable (Is64 v) := by unfold Is64; exact inferInstance
theorem is64_0 : Is64 0 := by decide
/-- the number of a numeral that is written as the number is. -/
def canon (w : Wd) : Option Int := match parseIntB 64 w with
  | .ok v => if itoa v = w then some v else none
  | _ => none
theorem itoa_pos {n : Int} (h : 0 ≤ n) : itoa n = decDigits n.toNat := by unfold itoa; rw [if_neg (by omega)]
theorem itoa_min {n : Int} (h : n < 0) : itoa n = 45 :: decDigits n.natAbs := by unfold itoa; rw [if_pos h]
theorem read_dec_neg {k : Nat} (h : k ≤ 9223372036854775808) : parseIntB 64 (45 :: decDigits k) = .ok (-(k : Int)) := by
  rw [parseIntB_minus]
  have hu : parseUintB 64 (decDigits k) = .ok k := by
    unfold parseUintB
    rw [if_neg (dec_ne k)]
    have e64 : (2 : Nat) ^ 64 - 1 = 18446744073709551615 := by decide
    have h1 := uint_ok (2 ^ 64 - 1) (by decide) (decDigits k) 0 (dec_dig k) (by rw [val_dec]; omega)
    rw [val_dec] at h1
    exact h1
  rw [hu]
  unfold signedC
  have : (2 : Nat) ^ (64 - 1) = 9223372036854775808 := by decide
  simp only
  rw [if_neg (by omega)]
theorem read_itoa {v : Int} (h : Is64 v) : parseIntB 64 (itoa v) = .ok v := by
  obtain ⟨h1, h2⟩ := h
  rcases Int.lt_or_le v 0 with q | q
  · rw [itoa_min q, read_dec_neg (by omega)]
    congr 1
    omega
  · rw [itoa_pos q, int_dec (by omega)]
    congr 1
    omega
theorem int_range {l : List UInt8} {v : Int} (h : parseIntB 64 l = .ok v) : Is64 v := by
  have h1 := parseIntB_bounds h
  have e : (2 : Nat) ^ (64 - 1) = 9223372036854775808 := by decide
  rw [e] at h1
  unfold Is64
  omega
theorem canon_itoa {v : Int} (h : Is64 v) : canon (itoa v) = some v := by
  unfold canon
  rw [read_itoa h]
  simp
theorem canon_some {w : Wd} {v : Int} (h : canon w = some v) : Is64 v ∧ w = itoa v := by
  unfold canon at h
  split at h
  · rename_i u hu
    split at h
    · rename_i e
      injection h with h
      subst h
      exact ⟨int_range hu, e.symm⟩
    · cases h
  · cases h
theorem itoa_inj {a b : Int} (ha : Is64 a) (hb : Is64 b) (h : itoa a = itoa b) : a = b := by
  have h1 := read_itoa ha
  rw [h, read_itoa hb] at h1
  injection h1 with h1
  exact h1.symm
theorem itoa_chr (n : Int) : ∀ x ∈ itoa n, isDig x ∨ x = 45 := by
  intro x hx
  rcases Int.lt_or_le n 0 with q | q
  · rw [itoa_min q] at hx
    rcases List.mem_cons.1 hx with e | e
    · exact .inr e
    · exact .inl (dec_dig _ x e)
  · rw [itoa_pos q] at hx
    exact .inl (dec_dig _ x hx)
theorem itoa_no {c : UInt8} (h : c.toNat < 45) (n : Int) : c ∉ itoa n := fun hm => by
  rcases itoa_chr n c hm with q | q
  · unfold isDig at q
    omega
  · subst q
    exact absurd h (by decide)
theorem itoa_ne (n : Int) : itoa n ≠ [] := by
  rcases Int.lt_or_le n 0 with q | q
  · rw [itoa_min q]
    simp
  · rw [itoa_pos q]
    exact dec_ne _
theorem itoa_len {n : Int} (h : Is64 n) : (itoa n).length ≤ 21 := itoa_length_le n h.1 h.2

/-- the line of words: single blanks between them. -/
def lineW : List Wd → Wd
  | [] => []
  | w :: r => w ++ r.flatMap (fun x => 32 :: x)
theorem lineW_one (w : Wd) : lineW [w] = w := by simp [lineW]
theorem lineW_snoc {ws : List Wd} (h : ws ≠ []) (x : Wd) : lineW (ws ++ [x]) = lineW ws ++ 32 :: x := by
  cases ws with
  | nil => exact absurd rfl h
  | cons w r => simp [lineW]
theorem lineW_app {ws : List Wd} (h : ws ≠ []) (xs : List Wd) : lineW (ws ++ xs) = lineW ws ++ xs.flatMap (fun x => 32 :: x) := by
  cases ws with
  | nil => exact absurd rfl h
  | cons w r => simp [lineW]
theorem lineW_ne {ws : List Wd} (h : ws ≠ []) (h0 : ∀ w ∈ ws, w ≠ []) : lineW ws ≠ [] := by
  cases ws with
  | nil => exact absurd rfl h
  | cons w r =>
    have := h0 w (by simp)
    simp [lineW, this]
/-- the words of a line. -/
def wordsL : Wd → List Wd
  | [] => [[]]
  | c :: r => if c = 32 then [] :: wordsL r else match wordsL r with
    | [] => [[c]]
    | w :: ws => (c :: w) :: ws
theorem wordsL_ne (l : Wd) : wordsL l ≠ [] := by
  cases l with
  | nil => simp [wordsL]
  | cons c r =>
    unfold wordsL
    split
    · simp
    · split <;> simp
theorem wordsL_blank (r : Wd) : wordsL (32 :: r) = [] :: wordsL r := by
  rw [wordsL, if_pos rfl]
theorem wordsL_cons {c : UInt8} (h : c ≠ 32) {r w : Wd} {ws : List Wd} (e : wordsL r = w :: ws) : wordsL (c :: r) = (c :: w) :: ws := by
  rw [wordsL, if_neg h, e]
theorem line_words : ∀ l : Wd, lineW (wordsL l) = l
  | [] => rfl
  | c :: r => by
    have ih := line_words r
    cases hq : wordsL r with
    | nil => exact absurd hq (wordsL_ne r)
    | cons w ws =>
      rw [hq] at ih
      by_cases hc : c = 32
      · subst hc
        rw [wordsL_blank, hq]
        rw [lineW] at ih
        simp [lineW, ih]
      · rw [wordsL_cons hc hq]
        rw [lineW] at ih
        simp [lineW, ih]
theorem words_no : ∀ l : Wd, ∀ w ∈ wordsL l, (32 : UInt8) ∉ w
  | [], w, h => by
    simp [wordsL] at h
    subst h
    simp
  | c :: r, w, h => by
    have ih := words_no r
    cases hq : wordsL r with
    | nil => exact absurd hq (wordsL_ne r)
    | cons x xs =>
      rw [hq] at ih
      by_cases hc : c = 32
      · subst hc
        rw [wordsL_blank, hq] at h
        rcases List.mem_cons.1 h with e | e
        · subst e
          simp
        · exact ih w e
      · rw [wordsL_cons hc hq] at h
        rcases List.mem_cons.1 h with e | e
        · subst e
          intro hm
          rcases List.mem_cons.1 hm with e | e
          · exact hc e.symm
          · exact ih x (by simp) e
        · exact ih w (by simp [e])
theorem words_pre {w : Wd} (h : (32 : UInt8) ∉ w) (l : Wd) : wordsL (w ++ 32 :: l) = w :: wordsL l := by
  induction w with
  | nil => exact wordsL_blank l
  | cons c r ih =>
    have h1 := ih (fun q => h (by simp [q]))
    exact wordsL_cons (fun e => h (by simp [e])) h1
theorem words_one {w : Wd} (h : (32 : UInt8) ∉ w) : wordsL w = [w] := by
  induction w with
  | nil => rfl
  | cons c r ih =>
    have h1 := ih (fun q => h (by simp [q]))
    exact wordsL_cons (fun e => h (by simp [e])) h1
theorem words_line : ∀ ws : List Wd, ws ≠ [] → (∀ w ∈ ws, (32 : UInt8) ∉ w) → wordsL (lineW ws) = ws
  | [], h, _ => absurd rfl h
  | [w], _, hn => by rw [lineW_one]; exact words_one (hn w (by simp))
  | w :: x :: r, _, hn => by
    have ih := words_line (x :: r) (by simp) (fun y hy => hn y (by simp at hy ⊢; exact .inr hy))
    have e : lineW (w :: x :: r) = w ++ 32 :: lineW (x :: r) := by simp [lineW]
    rw [e, words_pre (hn w (by simp)), ih]
theorem line_inj {a b : List Wd} (ha : a ≠ []) (hb : b ≠ []) (na : ∀ w ∈ a, (32 : UInt8) ∉ w) (nb : ∀ w ∈ b, (32 : UInt8) ∉ w) (h : lineW a = lineW b) : a = b := by
  rw [← words_line a ha na, h, words_line b hb nb]
theorem wordsL_len (l : Wd) : (wordsL l).length ≤ l.length + 1 := by
  induction l with
  | nil => simp [wordsL]
  | cons c r ih =>
    cases hq : wordsL r with
    | nil => exact absurd hq (wordsL_ne r)
    | cons w ws =>
      rw [hq] at ih
      by_cases hc : c = 32
      · subst hc
        rw [wordsL_blank, hq]
        simp at ih ⊢
        omega
      · rw [wordsL_cons hc hq]
        simp at ih ⊢
        omega
theorem lineW_join (ws : List Wd) : join ws [32] = lineW ws := by
  cases ws with
  | nil => rfl
  | cons w r =>
    rw [join_cons]
    show w ++ (r.map (([32] : List UInt8) ++ ·)).flatten = w ++ r.flatMap (fun x => 32 :: x)
    rw [List.flatMap_def]
    rfl
theorem lineW_len {ws : List Wd} {w : Wd} (h : w ∈ ws) : w.length ≤ (lineW ws).length := by
  cases ws with
  | nil => cases h
  | cons x r =>
    rw [lineW, List.length_append]
    rcases List.mem_cons.1 h with e | e
    · subst e
      omega
    · have : ∀ (r : List Wd), w ∈ r → w.length ≤ (r.flatMap (fun x => 32 :: x)).length := fun r => by
        induction r with
        | nil => intro h; cases h
        | cons y t ih =>
          intro h
          rw [List.flatMap_cons, List.length_append]
          rcases List.mem_cons.1 h with e | e
          · subst e
            simp
            omega
          · have := ih e
            omega
      have := this r e
      omega
end Go.Proofs.YtakdkiggaalimaaGreatDoor
