/-
  Plain: which text of changes is read, and where the first bad line lies; a text cut behind every newline.
  No condition: plain lemmas.
-/
import Derived.Test.YtppbmnlneoinhaaDoorCutL
import Derived.Test.YtppbmnlneoinhaaDoorAppB
namespace Go.Proofs.YtppbmnlneoinhaaDoor

def validL (m : Nat) (L : List ChgT) : Prop := (∀ c ∈ L, okC m c) ∧ Asc L
/-- s is the text of L. -/
def Fine (m : Nat) (s : List UInt8) (L : List ChgT) : Prop := validL m L ∧ s = textC L
/-- s begins with the text of L, and what follows begins with no line that can be added. -/
def Bad (m : Nat) (s : List UInt8) (L : List ChgT) : Prop := validL m L ∧ ∃ rest, s = textC L ++ rest ∧ rest ≠ [] ∧ ∀ c r, okC m c → late L c = false → rest ≠ lineC c ++ r
theorem valid_nil (m : Nat) : validL m [] := ⟨fun c h => (by cases h), fun a b c d _ h => (by simp at h)⟩
theorem valid_snoc {m : Nat} {L : List ChgT} {c : ChgT} (h : validL m L) (hc : okC m c) (hl : late L c = false) : validL m (L ++ [c]) := by
  refine ⟨fun x hx => ?_, asc_snoc h.2 hl⟩
  rcases List.mem_append.1 hx with hx | hx
  · exact h.1 x hx
  · rcases List.mem_singleton.1 hx with rfl
    exact hc
theorem late_mid {L t : List ChgT} {c : ChgT} (h : Asc (L ++ c :: t)) : late L c = false := by
  unfold late
  split
  · rename_i d hd
    rw [List.getLast?_eq_getElem?] at hd
    have hl := (List.getElem?_eq_some_iff.1 hd).1
    have := h (L.length - 1) L.length d c (by omega) (by rw [List.getElem?_append_left hl]; exact hd) (by simp)
    simpa using this
  · rfl
theorem line_shape {c : ChgT} (h : okR c) : ∃ x, lineC c = x ++ [10] ∧ (10 : UInt8) ∉ x := by
  refine ⟨Lib.join (wordsC c) [32], line_join c, ?_⟩
  have hc := words_clean h 10 (.inr rfl)
  unfold wordsC at hc ⊢
  rw [join_two, join_two, Lib.join_one]
  intro hm
  simp only [List.mem_append, List.mem_singleton] at hm
  rcases hm with hm | hm | hm | hm | hm
  · exact hc _ (by simp) hm
  · exact absurd hm (by decide)
  · exact hc _ (by simp) hm
  · exact absurd hm (by decide)
  · exact hc _ (by simp) hm
theorem cut_first {x y r t : List UInt8} : (10 : UInt8) ∉ x → (10 : UInt8) ∉ y → x ++ 10 :: r = y ++ 10 :: t → x = y ∧ r = t := by
  induction x generalizing y with
  | nil =>
    intro _ hy h
    cases y with
    | nil => simpa using h
    | cons b y =>
      rw [List.nil_append, List.cons_append] at h
      injection h with h1 _
      exact absurd (by rw [h1]; simp) hy
  | cons a x ih =>
    intro hx hy h
    cases y with
    | nil =>
      rw [List.nil_append, List.cons_append] at h
      injection h with h1 _
      exact absurd (by rw [h1]; simp) hx
    | cons b y =>
      rw [List.cons_append, List.cons_append] at h
      injection h with h1 h2
      obtain ⟨e1, e2⟩ := ih (fun q => hx (by simp [q])) (fun q => hy (by simp [q])) h2
      exact ⟨by rw [h1, e1], e2⟩
theorem time_inj {a b : Int} (ha : 0 ≤ a) (hb : 0 ≤ b) (h : timeText a = timeText b) : a = b := by
  have key : ∀ n : Int, 0 ≤ n → Lib.itoa n ≠ [99, 108, 111, 115, 101, 100] := fun n hn e => by
    rw [itoa_nat hn] at e
    have hd := dec_dig n.toNat 99 (by rw [e]; simp)
    exact absurd hd (by unfold isDig; decide)
  unfold timeText at h
  split at h
  · rename_i h1
    split at h
    · rename_i h2; rw [h1, h2]
    · exact absurd h.symm (key b hb)
  · split at h
    · exact absurd h (key a ha)
    · exact itoa_inj ha hb h
theorem words_inj {c d : ChgT} (hc : okR c) (hd : okR d) (h : wordsC c = wordsC d) : c = d := by
  unfold wordsC at h
  simp only [List.cons.injEq, and_true] at h
  unfold okR at hc hd
  obtain ⟨h1, h2, h3⟩ := h
  have e1 := itoa_inj (by omega) (by omega) h1
  have e2 := itoa_inj (by omega) (by omega) h2
  have e3 := time_inj (by omega) (by omega) h3
  cases c
  cases d
  simp_all
theorem line_inj {c d : ChgT} (hc : okR c) (hd : okR d) {r t : List UInt8} (h : lineC c ++ r = lineC d ++ t) : c = d ∧ r = t := by
  obtain ⟨x, hx, nx⟩ := line_shape hc
  obtain ⟨y, hy, ny⟩ := line_shape hd
  rw [hx, hy, List.append_assoc, List.append_assoc] at h
  obtain ⟨e1, e2⟩ := cut_first nx ny h
  refine ⟨words_inj hc hd ?_, e2⟩
  have e3 : Lib.join (wordsC c) [32] = Lib.join (wordsC d) [32] := by
    have a := line_join c
    have b := line_join d
    rw [hx] at a
    rw [hy] at b
    have a := List.append_cancel_right a
    have b := List.append_cancel_right b
    rw [← a, ← b, e1]
  have a := cuts_join (wordsC c) (by simp [wordsC]) (words_clean hc 32 (.inl rfl))
  have b := cuts_join (wordsC d) (by simp [wordsC]) (words_clean hd 32 (.inl rfl))
  rw [← a, ← b, e3]
theorem textC_cons (c : ChgT) (L : List ChgT) : textC (c :: L) = lineC c ++ textC L := by simp [textC]
theorem textC_app (L M : List ChgT) : textC (L ++ M) = textC L ++ textC M := by simp [textC]
theorem textC_snoc (L : List ChgT) (c : ChgT) : textC (L ++ [c]) = textC L ++ lineC c := by simp [textC]
theorem line_ne (c : ChgT) : lineC c ≠ [] := by unfold lineC; simp
/-- of two ways to begin a text one goes on from the other. -/
theorem two_ways : ∀ (L M : List ChgT), (∀ c ∈ L, okR c) → (∀ c ∈ M, okR c) → ∀ r t, textC L ++ r = textC M ++ t → (∃ K, M = L ++ K ∧ r = textC K ++ t) ∨ (∃ K, L = M ++ K ∧ t = textC K ++ r)
  | [], M, _, _, r, t, h => .inl ⟨M, rfl, by simpa [textC] using h⟩
  | c :: L, [], _, _, r, t, h => .inr ⟨c :: L, rfl, by simpa [textC] using h.symm⟩
  | c :: L, d :: M, h1, h2, r, t, h => by
    rw [textC_cons, textC_cons, List.append_assoc, List.append_assoc] at h
    obtain ⟨e, h'⟩ := line_inj (h1 c (by simp)) (h2 d (by simp)) h
    rcases two_ways L M (fun x hx => h1 x (by simp [hx])) (fun x hx => h2 x (by simp [hx])) r t h' with ⟨K, hK, hr⟩ | ⟨K, hK, hr⟩
    · exact .inl ⟨K, by rw [e, hK]; rfl, hr⟩
    · exact .inr ⟨K, by rw [← e, hK]; rfl, hr⟩
/-- nothing can be added behind L. -/
def Stuck (m : Nat) (L : List ChgT) (r : List UInt8) : Prop := ∀ c t, okC m c → late L c = false → r ≠ lineC c ++ t
theorem stuck_nil (m : Nat) (L : List ChgT) : Stuck m L [] := fun c t _ _ h => line_ne c (by
  have := congrArg List.length h
  rw [List.length_append, List.length_nil] at this
  exact List.length_eq_zero_iff.1 (by omega))
theorem stuck_one {m : Nat} {L K : List ChgT} {r t : List UInt8} (hM : validL m (L ++ K)) (hr : r = textC K ++ t) (hs : Stuck m L r) : K = [] := by
  cases K with
  | nil => rfl
  | cons c K =>
    exact absurd (by rw [hr, textC_cons, List.append_assoc]) (hs c (textC K ++ t) (hM.1 c (by simp)) (late_mid hM.2))
theorem stuck_uniq {m : Nat} (hm : m ≤ 1099511627776) {L M : List ChgT} (hL : validL m L) (hM : validL m M) {r t : List UInt8} (h : textC L ++ r = textC M ++ t) (hr : Stuck m L r) (ht : Stuck m M t) : L = M ∧ r = t := by
  rcases two_ways L M (fun c hc => okR_of hm (hL.1 c hc)) (fun c hc => okR_of hm (hM.1 c hc)) r t h with ⟨K, hK, hq⟩ | ⟨K, hK, hq⟩
  · have : K = [] := stuck_one (by rw [← hK]; exact hM) hq hr
    subst this
    simp at hK
    refine ⟨hK.symm, ?_⟩
    simpa [textC] using hq
  · have : K = [] := stuck_one (by rw [← hK]; exact hL) hq ht
    subst this
    simp at hK
    refine ⟨hK, ?_⟩
    simpa [textC] using hq.symm
theorem fine_uniq {m : Nat} (hm : m ≤ 1099511627776) {s : List UInt8} {L M : List ChgT} (hL : Fine m s L) (hM : Fine m s M) : L = M :=
  (stuck_uniq hm hL.1 hM.1 (r := []) (t := []) (by rw [List.append_nil, List.append_nil, ← hL.2, ← hM.2]) (stuck_nil m L) (stuck_nil m M)).1
theorem bad_uniq {m : Nat} (hm : m ≤ 1099511627776) {s : List UInt8} {L M : List ChgT} (hL : Bad m s L) (hM : Bad m s M) : L = M := by
  obtain ⟨v1, r, e1, _, s1⟩ := hL
  obtain ⟨v2, t, e2, _, s2⟩ := hM
  exact (stuck_uniq hm v1 v2 (by rw [← e1, ← e2]) s1 s2).1
theorem fine_bad {m : Nat} (hm : m ≤ 1099511627776) {s : List UInt8} {L M : List ChgT} (hL : Fine m s L) (hM : Bad m s M) : False := by
  obtain ⟨v2, t, e2, n2, s2⟩ := hM
  have := (stuck_uniq hm hL.1 v2 (r := []) (t := t) (by rw [List.append_nil, ← hL.2, ← e2]) (stuck_nil m L) s2).2
  exact n2 this.symm
theorem textC_long (L : List ChgT) : L.length ≤ (textC L).length := by
  induction L with
  | nil => simp [textC]
  | cons c L ih =>
    rw [textC_cons, List.length_append, List.length_cons]
    have : (lineC c).length ≠ 0 := fun h => line_ne c (List.length_eq_zero_iff.1 h)
    omega

/-- the pieces of a text: all but the last end in their only newline; the last has none. -/
def Pieces : List (List UInt8) → Prop
  | [] => True
  | x :: r => (((∃ y, x = y ++ [10] ∧ (10 : UInt8) ∉ y) ∧ r ≠ []) ∨ (r = [] ∧ (10 : UInt8) ∉ x)) ∧ Pieces r
theorem pieces_at : ∀ {A : List (List UInt8)} {x : List UInt8} {B : List (List UInt8)}, Pieces (A ++ x :: B) → (((∃ y, x = y ++ [10] ∧ (10 : UInt8) ∉ y) ∧ B ≠ []) ∨ (B = [] ∧ (10 : UInt8) ∉ x))
  | [], _, _, h => h.1
  | _ :: A, _, _, h => pieces_at (A := A) h.2
theorem index_first {s : List UInt8} {i : Nat} (h : Lib.index s [10] = i) : s.take i ++ ([10] ++ s.drop (i + 1)) = s ∧ (10 : UInt8) ∉ s.take i := by
  rcases Lib.index_spec s [10] with ⟨h1, _⟩ | ⟨j, h1, h2, h3, h4⟩
  · omega
  · have : j = i := by omega
    subst this
    have key : ∀ {t : List UInt8} {k : Nat}, Lib.occAt t [10] k = true → t.take k ++ ([10] ++ t.drop (k + 1)) = t := by
      intro t k h
      unfold Lib.occAt at h
      rw [List.isPrefixOf_iff_prefix] at h
      obtain ⟨q, hq⟩ := h
      have e : t.drop (k + 1) = q := by
        have : t.drop (k + 1) = (t.drop k).drop 1 := by rw [List.drop_drop]
        rw [this, ← hq]
        rfl
      rw [e, hq, List.take_append_drop]
    refine ⟨key h3, fun hm => ?_⟩
    obtain ⟨k, hk, he⟩ := List.mem_iff_getElem.1 hm
    have hkj : k < j := by rw [List.length_take] at hk; omega
    refine absurd (h4 k hkj) ?_
    have hks : k < s.length := by rw [List.length_take] at hk; omega
    have e1 : s[k] = 10 := by rw [List.getElem_take] at he; exact he
    unfold Lib.occAt
    rw [List.drop_eq_getElem_cons hks, e1]
    simp [List.isPrefixOf]
theorem index_none {s : List UInt8} (h : Lib.index s [10] = -1) : (10 : UInt8) ∉ s := by
  rcases Lib.index_spec s [10] with ⟨_, h2⟩ | ⟨j, h1, _⟩
  · intro hm
    obtain ⟨k, hk, he⟩ := List.mem_iff_getElem.1 hm
    refine absurd (h2 k (Nat.le_of_lt hk)) ?_
    unfold Lib.occAt
    rw [List.drop_eq_getElem_cons hk, he]
    simp [List.isPrefixOf]
  · omega
theorem splitA : ∀ (k : Nat) (s : List UInt8), s.length ≤ k → Pieces (Lib.splitK [10] 1 k s) ∧ (Lib.splitK [10] 1 k s).flatten = s
  | 0, s, h => by
    have : s = [] := List.length_eq_zero_iff.1 (by omega)
    subst this
    exact ⟨⟨.inr ⟨rfl, by simp⟩, trivial⟩, rfl⟩
  | k + 1, s, h => by
    unfold Lib.splitK
    split
    · rename_i he
      have he := beq_iff_eq.1 he
      exact ⟨⟨.inr ⟨rfl, index_none he⟩, trivial⟩, by simp⟩
    · rename_i he
      rcases Lib.index_spec s [10] with ⟨h1, _⟩ | ⟨j, h1, h2, _, _⟩
      · exact absurd (beq_iff_eq.2 h1) he
      obtain ⟨e1, e2⟩ := index_first h1
      have hj : j < s.length := by
        have := congrArg List.length e1
        simp at this
        omega
      obtain ⟨i1, i2⟩ := splitA k (s.drop (j + 1)) (by rw [List.length_drop]; omega)
      have et : s.take (j + 1) = s.take j ++ [10] := by
        have hd : s.drop j = 10 :: s.drop (j + 1) := by
          have : (s.take j ++ ([10] ++ s.drop (j + 1))).drop j = s.drop j := by rw [e1]
          rw [← this, List.drop_append_of_le_length (by rw [List.length_take]; omega)]
          rw [List.drop_eq_nil_of_le (by rw [List.length_take]; omega)]
          rfl
        rw [List.drop_eq_getElem_cons hj] at hd
        injection hd with hd _
        rw [List.take_succ_eq_append_getElem hj, hd]
      rw [h1]
      simp only [Int.toNat_natCast, List.length_cons, List.length_nil, Nat.zero_add]
      refine ⟨⟨.inl ⟨⟨s.take j, et, e2⟩, splitK_ne _ _ _ _⟩, i1⟩, ?_⟩
      rw [List.flatten_cons, i2, List.take_append_drop]
/-- a line at the head of the rest is the next piece. -/
theorem piece_line {c : ChgT} (hc : okR c) {x : List UInt8} {B : List (List UInt8)} {r : List UInt8} (hx : (((∃ y, x = y ++ [10] ∧ (10 : UInt8) ∉ y) ∧ B ≠ []) ∨ (B = [] ∧ (10 : UInt8) ∉ x))) (h : x ++ B.flatten = lineC c ++ r) : lineC c = x := by
  obtain ⟨z, hz, nz⟩ := line_shape hc
  rcases hx with ⟨⟨y, rfl, ny⟩, _⟩ | ⟨rfl, nx⟩
  · rw [hz, List.append_assoc, List.append_assoc] at h
    rw [hz, (cut_first ny nz h).1]
  · exfalso
    apply nx
    rw [List.flatten_nil, List.append_nil] at h
    rw [h, hz]
    simp
end Go.Proofs.YtppbmnlneoinhaaDoor
