/-
  Plain lemmas on texts: cut at blanks, and joined again.
  No condition: plain lemmas on lists of bytes.
  The line of a change as a text: its three words; what reads it back.
  No condition: plain lemmas.
-/
import Derived.Test.YtppbmnlneoinhaaDoorNum
import Derived.Lib.IndexMore
import Derived.Lib.Split
import Derived.Lib.Join
import Derived.Test.YtppbmnlneoinhaaDoorFmtC
import Derived.Lib.Strings
namespace Go.Proofs.YtppbmnlneoinhaaDoor
section
theorem index_at {c : UInt8} {t r : List UInt8} : ∀ {p : List UInt8}, c ∉ p → Lib.index (p ++ ((c :: t) ++ r)) (c :: t) = p.length
  | [], _ => by
    simp [Lib.index, List.isPrefixOf]
  | b :: p, h => by
    have hb : c ≠ b := fun e => h (by simp [e])
    have ih := index_at (c := c) (t := t) (r := r) (p := p) (fun e => h (by simp [e]))
    rw [List.cons_append]
    unfold Lib.index
    rw [ih]
    have h1 : (c :: t).isPrefixOf (b :: (p ++ (c :: t ++ r))) = false := by simp [List.isPrefixOf, hb]
    rw [h1]
    simp only [Bool.false_eq_true, if_false, List.length_cons]
    rw [if_neg (by simp)]
    omega
theorem index_miss {c : UInt8} : ∀ {p : List UInt8}, c ∉ p → Lib.index p [c] = -1
  | [], _ => by simp [Lib.index]
  | b :: p, h => by
    have hb : c ≠ b := fun e => h (by simp [e])
    have ih := index_miss (c := c) (p := p) (fun e => h (by simp [e]))
    unfold Lib.index
    rw [ih]
    have h1 : [c].isPrefixOf (b :: p) = false := by simp [List.isPrefixOf, hb]
    rw [h1]
    rfl
theorem join_two (p q : List UInt8) (r : List (List UInt8)) : Lib.join (p :: q :: r) [32] = p ++ (([32] : List UInt8) ++ Lib.join (q :: r) [32]) := by
  rw [Lib.join_cons, Lib.join_cons]
  simp [Lib.joinTail]
theorem split_join : ∀ (ps : List (List UInt8)) (k : Nat), ps ≠ [] → (∀ p ∈ ps, (32 : UInt8) ∉ p) → ps.length ≤ k + 1 → Lib.splitK [32] 0 k (Lib.join ps [32]) = ps
  | [], _, h, _, _ => absurd rfl h
  | [p], k, _, hn, _ => by
    rw [Lib.join_one]
    cases k with
    | zero => rfl
    | succ k =>
      unfold Lib.splitK
      rw [index_miss (hn p (by simp))]
      rfl
  | p :: q :: r, k, _, hn, hk => by
    cases k with
    | zero => simp at hk
    | succ k =>
      rw [join_two]
      unfold Lib.splitK
      rw [index_at (hn p (by simp)), if_neg (by simp)]
      have ih := split_join (q :: r) k (by simp) (fun x hx => hn x (by simp at hx ⊢; right; exact hx)) (by simp at hk ⊢; omega)
      have e1 : List.drop (Int.toNat (p.length : Int) + ([32] : List UInt8).length) (p ++ (([32] : List UInt8) ++ Lib.join (q :: r) [32])) = Lib.join (q :: r) [32] := by simp
      rw [e1, ih]
      simp
theorem join_room : ∀ (ps : List (List UInt8)), ps.length ≤ (Lib.join ps [32]).length + 1
  | [] => by simp
  | [p] => by simp
  | p :: q :: r => by
    have ih := join_room (q :: r)
    rw [join_two]
    simp only [List.length_cons, List.length_append] at ih ⊢
    simp only [List.length_nil]
    omega
theorem splitK_ne (sep : List UInt8) (sv k : Nat) (s : List UInt8) : Lib.splitK sep sv k s ≠ [] := by
  cases k with
  | zero => simp [Lib.splitK]
  | succ k =>
    unfold Lib.splitK
    split <;> simp
theorem at_index {s : List UInt8} {i : Nat} (h : Lib.occAt s [32] i = true) : s.take i ++ (([32] : List UInt8) ++ s.drop (i + 1)) = s := by
  unfold Lib.occAt at h
  rw [List.isPrefixOf_iff_prefix] at h
  obtain ⟨t, ht⟩ := h
  have e : s.drop (i + 1) = t := by
    have : s.drop (i + 1) = (s.drop i).drop 1 := by rw [List.drop_drop]
    rw [this, ← ht]
    rfl
  rw [e, ht, List.take_append_drop]
theorem join_split : ∀ (k : Nat) (s : List UInt8), Lib.join (Lib.splitK [32] 0 k s) [32] = s
  | 0, s => Lib.join_one _ _
  | k + 1, s => by
    unfold Lib.splitK
    split
    · exact Lib.join_one _ _
    · rename_i h
      rcases Lib.index_spec s [32] with ⟨h1, _⟩ | ⟨i, h1, _, h3, _⟩
      · exact absurd (beq_iff_eq.2 h1) h
      have ih := join_split k (s.drop (i + 1))
      obtain ⟨q, r, hqr⟩ := List.exists_cons_of_ne_nil (splitK_ne [32] 0 k (s.drop (i + 1)))
      rw [h1]
      have e : Int.toNat (i : Int) + ([32] : List UInt8).length = i + 1 := by simp
      rw [e, hqr, join_two, ← hqr, ih]
      simp only [Int.toNat_natCast, Nat.add_zero]
      exact at_index h3
/-- a text cut at every blank. -/
def cutsFrom : List UInt8 → List UInt8 → List (List UInt8)
  | cur, [] => [cur]
  | cur, c :: r => if c = 32 then cur :: cutsFrom [] r else cutsFrom (cur ++ [c]) r
theorem cuts_ne (cur l : List UInt8) : cutsFrom cur l ≠ [] := by
  induction l generalizing cur with
  | nil => simp [cutsFrom]
  | cons c r ih =>
    unfold cutsFrom
    split
    · simp
    · exact ih _
theorem cuts_len (cur l : List UInt8) : (cutsFrom cur l).length ≤ l.length + 1 := by
  induction l generalizing cur with
  | nil => simp [cutsFrom]
  | cons c r ih =>
    unfold cutsFrom
    split
    · have := ih []
      simp
      omega
    · have := ih (cur ++ [c])
      simp
      omega
theorem cuts_small (cur l : List UInt8) : ∀ x ∈ cutsFrom cur l, x.length ≤ cur.length + l.length := by
  induction l generalizing cur with
  | nil => intro x hx; simp [cutsFrom] at hx; subst hx; simp
  | cons c r ih =>
    intro x hx
    unfold cutsFrom at hx
    split at hx
    · rcases List.mem_cons.1 hx with rfl | hx
      · simp
      · have := ih [] x hx
        simp at this ⊢
        omega
    · have := ih _ x hx
      simp at this ⊢
      omega
theorem join_cuts (cur l : List UInt8) : Lib.join (cutsFrom cur l) [32] = cur ++ l := by
  induction l generalizing cur with
  | nil => simp [cutsFrom, Lib.join_one]
  | cons c r ih =>
    unfold cutsFrom
    split
    · rename_i e
      subst e
      have h := ih []
      obtain ⟨q, t, hqt⟩ := List.exists_cons_of_ne_nil (cuts_ne [] r)
      rw [hqt] at h ⊢
      rw [join_two, h]
      simp
    · rw [ih]
      simp
theorem cuts_plain (p : List UInt8) (h : (32 : UInt8) ∉ p) : ∀ cur r, cutsFrom cur (p ++ r) = cutsFrom (cur ++ p) r := by
  induction p with
  | nil => intro cur r; simp
  | cons c t ih =>
    intro cur r
    have hc : c ≠ 32 := fun e => h (by simp [e])
    rw [List.cons_append, cutsFrom, if_neg hc, ih (fun e => h (by simp [e]))]
    simp
theorem cuts_join : ∀ (ps : List (List UInt8)), ps ≠ [] → (∀ p ∈ ps, (32 : UInt8) ∉ p) → cutsFrom [] (Lib.join ps [32]) = ps
  | [], h, _ => absurd rfl h
  | [p], _, hn => by
    rw [Lib.join_one]
    have := cuts_plain p (hn p (by simp)) [] []
    simp at this
    rw [this]
    rfl
  | p :: q :: r, _, hn => by
    have ih := cuts_join (q :: r) (by simp) (fun x hx => hn x (by simp at hx ⊢; right; exact hx))
    rw [join_two, cuts_plain p (hn p (by simp))]
    rw [List.nil_append, List.singleton_append, cutsFrom, if_pos rfl, ih]
end
section
/-- the words of a change's line. -/
def wordsC (c : ChgT) : List (List UInt8) := [Lib.itoa c.tick, Lib.itoa c.edge, timeText c.time]
theorem line_join (c : ChgT) : lineC c = Lib.join (wordsC c) [32] ++ [10] := by
  unfold lineC wordsC
  rw [join_two, join_two, Lib.join_one]
  simp
theorem itoa_nat {n : Int} (h : 0 ≤ n) : Lib.itoa n = Lib.decDigits n.toNat := by
  unfold Lib.itoa
  rw [if_neg (by omega)]
theorem dig_blank {n : Nat} {x : UInt8} (h : ¬ isDig x) : x ∉ Lib.decDigits n := fun hm => h (dec_dig n x hm)
/-- a change that can be read. -/
def okR (c : ChgT) : Prop := (0 ≤ c.tick ∧ c.tick ≤ 1099511627776 ∧ 0 ≤ c.edge ∧ c.edge ≤ 1099511627776) ∧ ((1 ≤ c.time ∧ c.time ≤ 1048576) ∨ c.time = 4611686018427387904)
theorem okR_of {m : Nat} (hm : m ≤ 1099511627776) {c : ChgT} (h : okC m c) : okR c := by
  unfold okC at h
  unfold okR
  omega
theorem words_clean {c : ChgT} (h : okR c) (x : UInt8) (hx : x = 32 ∨ x = 10) : ∀ p ∈ wordsC c, x ∉ p := by
  have hd : ¬ isDig x := by rcases hx with rfl | rfl <;> (unfold isDig; decide)
  intro p hp
  unfold wordsC at hp
  simp only [List.mem_cons, List.not_mem_nil, or_false] at hp
  unfold okR at h
  rcases hp with rfl | rfl | rfl
  · rw [itoa_nat h.1.1]; exact dig_blank hd
  · rw [itoa_nat h.1.2.2.1]; exact dig_blank hd
  · unfold timeText
    split
    · rcases hx with rfl | rfl <;> decide
    · rw [itoa_nat (by omega)]; exact dig_blank hd
theorem read_itoa {n : Int} (h0 : 0 ≤ n) (h1 : n ≤ 4611686018427387904) : Lib.parseIntB 64 (Lib.itoa n) = .ok n := by
  rw [itoa_nat h0, int_dec (by omega)]
  congr 1
  omega
theorem trim_line (x : List UInt8) : Lib.trimSuffix (x ++ [10]) [10] = x := by
  unfold Lib.trimSuffix Lib.hasSuffix
  rw [if_pos (by simp)]
  simp
theorem mag_ok : ∀ (l : List UInt8) (acc : Nat), (∀ c ∈ l, isDig c) → valFrom acc l < 18446744073709551616 → Lib.parseUint10 acc l = .ok (valFrom acc l) := by
  intro l
  induction l with
  | nil => intro acc _ _; rw [valFrom_nil]; rfl
  | cons c t ih =>
    intro acc hd hv
    have hc : isDig c := hd c (by simp)
    have h1 := valFrom_ge t (acc * 10 + (c.toNat - 48))
    rw [valFrom_cons] at hv ⊢
    unfold isDig at hc
    simp only [Lib.parseUint10]
    rw [if_pos hc, if_neg (by omega), if_neg (by omega)]
    exact ih _ (fun x hx => hd x (by simp [hx])) hv
theorem atoi_itoa {n : Int} (h0 : 0 ≤ n) (h1 : n ≤ 4611686018427387904) : Lib.atoiAll (Lib.itoa n) = .ok n := by
  rw [itoa_nat h0]
  obtain ⟨c, r, hcr⟩ := List.exists_cons_of_ne_nil (dec_ne n.toNat)
  have hd := dec_dig n.toNat
  have hv := val_dec n.toNat
  rw [hcr] at hd hv ⊢
  have hc : isDig c := hd c (by simp)
  have h43 : ¬ (c.toNat = 43 ∨ c.toNat = 45) := by unfold isDig at hc; omega
  have h45 : ¬ c.toNat = 45 := by unfold isDig at hc; omega
  have hu : Lib.parseMag (c :: r) = .ok n.toNat := by
    unfold Lib.parseMag
    rw [if_neg (by simp)]
    rw [mag_ok _ 0 hd (by omega), hv]
  unfold Lib.atoiAll
  simp only
  rw [if_neg h43, hu]
  simp only
  rw [if_neg (by omega), if_neg (fun q => h45 q.1), if_neg h45]
  congr 1
  omega
theorem itoa_inj {a b : Int} (ha : 0 ≤ a) (hb : 0 ≤ b) (h : Lib.itoa a = Lib.itoa b) : a = b := by
  rw [itoa_nat ha, itoa_nat hb] at h
  have := dec_inj h
  omega
theorem int_range {l : List UInt8} {v : Int} (h : Lib.parseIntB 64 l = .ok v) : -9223372036854775808 ≤ v ∧ v ≤ 9223372036854775807 := by
  have h63 : (2 : Nat) ^ (64 - 1) = 9223372036854775808 := by decide
  cases l with
  | nil => cases h
  | cons c r =>
    unfold Lib.parseIntB at h
    simp only at h
    split at h
    · cases h
    · cases h
    · split at h
      · cases h
      · split at h
        · cases h
        · injection h with h
          rw [h63] at *
          split at h <;> omega
theorem atoi_range {l : List UInt8} {v : Int} (h : Lib.atoiAll l = .ok v) : -9223372036854775808 ≤ v ∧ v ≤ 9223372036854775807 := by
  cases l with
  | nil => cases h
  | cons c r =>
    unfold Lib.atoiAll at h
    simp only at h
    split at h
    · cases h
    · cases h
    · split at h
      · cases h
      · split at h
        · cases h
        · injection h with h
          split at h <;> omega
end
end Go.Proofs.YtppbmnlneoinhaaDoor
