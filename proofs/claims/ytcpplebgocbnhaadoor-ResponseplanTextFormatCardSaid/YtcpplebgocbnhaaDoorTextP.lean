/-
  Plain: the words and the text of a response plan; a text cut at its blanks.
-/
import Derived.Test.YtcpplebgocbnhaaDoorValid
import Derived.Test.YtcpplebgocbnhaaDoorParseE
namespace Go.Proofs.YtcpplebgocbnhaaDoor
open Go.RowKit Go.Maps

def planW : List UInt8 := [112, 108, 97, 110]
def kindName (k : Int) : List UInt8 := if k = 1 then [98, 97, 115, 105, 99] else if k = 2 then [100, 111, 99, 116, 111, 114] else if k = 3 then [99, 97, 114] else [97, 105, 114]
def kindNum (l : List UInt8) : Int := if l = [98, 97, 115, 105, 99] then 1 else if l = [100, 111, 99, 116, 111, 114] then 2 else if l = [99, 97, 114] then 3 else if l = [97, 105, 114] then 4 else 0
theorem num_name {k : Int} (h : kindB k = true) : kindNum (kindName k) = k := by
  unfold kindB at h
  rw [decide_eq_true_eq] at h
  have : k = 1 ∨ k = 2 ∨ k = 3 ∨ k = 4 := by omega
  rcases this with rfl | rfl | rfl | rfl <;> decide
theorem name_num {l : List UInt8} (h : kindB (kindNum l) = true) : kindName (kindNum l) = l := by
  unfold kindNum at h ⊢
  split
  · rename_i e; rw [e]; rfl
  · split
    · rename_i e; rw [e]; rfl
    · split
      · rename_i e; rw [e]; rfl
      · split
        · rename_i e; rw [e]; rfl
        · rename_i a b c d
          rw [if_neg a, if_neg b, if_neg c, if_neg d] at h
          exact absurd h (by decide)
theorem kindNum_range (l : List UInt8) : 0 ≤ kindNum l ∧ kindNum l ≤ 4 := by
  unfold kindNum
  split
  · omega
  · split
    · omega
    · split
      · omega
      · split <;> omega

def wordsP (p : Plan) : List (List UInt8) := planW :: p.code.data.toList :: Lib.decDigits p.urg.toNat :: p.kinds.map kindName
def textP (p : Plan) : List UInt8 := Lib.join (wordsP p) [32]

theorem valid_parts {p : Plan} (h : validB p = true) : 1 ≤ p.code.size ∧ p.code.size ≤ 40 ∧ (∀ c ∈ p.code.data.toList, 33 ≤ c.toNat ∧ c.toNat ≤ 126) ∧ 1 ≤ p.urg ∧ p.urg ≤ 5 ∧ 1 ≤ p.kinds.length ∧ p.kinds.length ≤ 8 ∧ ∀ k ∈ p.kinds, kindB k = true := by
  unfold validB codeB at h
  simp only [Bool.and_eq_true, decide_eq_true_eq, List.all_eq_true] at h
  obtain ⟨⟨⟨a, b⟩, c⟩, ⟨d, e⟩, ⟨f, g⟩, i⟩ := h
  refine ⟨a, b, ?_, d, e, f, g, i⟩
  intro x hx
  have := c x hx
  unfold okC at this
  simpa using this

theorem name_blank (k : Int) : (32 : UInt8) ∉ kindName k := by
  unfold kindName
  split
  · decide
  · split
    · decide
    · split <;> decide
theorem words_blank {p : Plan} (h : validB p = true) : ∀ x ∈ wordsP p, (32 : UInt8) ∉ x := by
  obtain ⟨_, _, hc, _⟩ := valid_parts h
  intro x hx
  unfold wordsP at hx
  rcases List.mem_cons.1 hx with rfl | hx
  · decide
  rcases List.mem_cons.1 hx with rfl | hx
  · intro hm
    have := hc 32 hm
    exact absurd this (by decide)
  rcases List.mem_cons.1 hx with rfl | hx
  · exact not_mem_dig (dec_dig _) (by unfold isDig; decide)
  · obtain ⟨k, _, rfl⟩ := List.mem_map.1 hx
    exact name_blank k
theorem words_len (p : Plan) : (wordsP p).length = 3 + p.kinds.length := by
  unfold wordsP
  simp
  omega
theorem words_ne (p : Plan) : wordsP p ≠ [] := by
  unfold wordsP
  simp

theorem join_room : ∀ (ps : List (List UInt8)), ps.length ≤ (Lib.join ps [32]).length + 1
  | [] => by simp
  | [p] => by simp
  | p :: q :: r => by
    have ih := join_room (q :: r)
    rw [join_two]
    simp only [List.length_cons, List.length_append] at ih ⊢
    simp only [List.length_nil]
    omega

theorem splitK_ne (sep : List UInt8) (sv k : Nat) (s : List UInt8) : Lib.splitK sep sv k s ≠ [] := by
  cases k with
  | zero => simp [Lib.splitK]
  | succ k =>
    unfold Lib.splitK
    split <;> simp

theorem at_index {s : List UInt8} {i : Nat} (h : Lib.occAt s [32] i = true) : s.take i ++ (([32] : List UInt8) ++ s.drop (i + 1)) = s := by
  unfold Lib.occAt at h
  rw [List.isPrefixOf_iff_prefix] at h
  obtain ⟨t, ht⟩ := h
  have e : s.drop (i + 1) = t := by
    have : s.drop (i + 1) = (s.drop i).drop 1 := by rw [List.drop_drop]
    rw [this, ← ht]
    rfl
  rw [e, ht, List.take_append_drop]

theorem join_split : ∀ (k : Nat) (s : List UInt8), Lib.join (Lib.splitK [32] 0 k s) [32] = s
  | 0, s => Lib.join_one _ _
  | k + 1, s => by
    unfold Lib.splitK
    split
    · exact Lib.join_one _ _
    · rename_i h
      rcases Lib.index_spec s [32] with ⟨h1, _⟩ | ⟨i, h1, _, h3, _⟩
      · exact absurd (beq_iff_eq.2 h1) h
      have ih := join_split k (s.drop (i + 1))
      obtain ⟨q, r, hqr⟩ := List.exists_cons_of_ne_nil (splitK_ne [32] 0 k (s.drop (i + 1)))
      rw [h1]
      have e : Int.toNat (i : Int) + ([32] : List UInt8).length = i + 1 := by simp
      rw [e, hqr, join_two, ← hqr, ih]
      simp only [Int.toNat_natCast, Nat.add_zero]
      exact at_index h3

/-- a text cut at every blank. -/
def cutsFrom : List UInt8 → List UInt8 → List (List UInt8)
  | cur, [] => [cur]
  | cur, c :: r => if c = 32 then cur :: cutsFrom [] r else cutsFrom (cur ++ [c]) r
theorem cuts_ne (cur l : List UInt8) : cutsFrom cur l ≠ [] := by
  induction l generalizing cur with
  | nil => simp [cutsFrom]
  | cons c r ih =>
    unfold cutsFrom
    split
    · simp
    · exact ih _
theorem cuts_len (cur l : List UInt8) : (cutsFrom cur l).length ≤ l.length + 1 := by
  induction l generalizing cur with
  | nil => simp [cutsFrom]
  | cons c r ih =>
    unfold cutsFrom
    split
    · have := ih []
      simp
      omega
    · have := ih (cur ++ [c])
      simp
      omega
theorem cuts_small (cur l : List UInt8) : ∀ x ∈ cutsFrom cur l, x.length ≤ cur.length + l.length := by
  induction l generalizing cur with
  | nil => intro x hx; simp [cutsFrom] at hx; subst hx; simp
  | cons c r ih =>
    intro x hx
    unfold cutsFrom at hx
    split at hx
    · rcases List.mem_cons.1 hx with rfl | hx
      · simp
      · have := ih [] x hx
        simp at this ⊢
        omega
    · have := ih _ x hx
      simp at this ⊢
      omega
theorem join_cuts (cur l : List UInt8) : Lib.join (cutsFrom cur l) [32] = cur ++ l := by
  induction l generalizing cur with
  | nil => simp [cutsFrom, Lib.join_one]
  | cons c r ih =>
    unfold cutsFrom
    split
    · rename_i e
      subst e
      have h := ih []
      obtain ⟨q, t, hqt⟩ := List.exists_cons_of_ne_nil (cuts_ne [] r)
      rw [hqt] at h ⊢
      rw [join_two, h]
      simp
    · rw [ih]
      simp
theorem cuts_plain (p : List UInt8) (h : (32 : UInt8) ∉ p) : ∀ cur r, cutsFrom cur (p ++ r) = cutsFrom (cur ++ p) r := by
  induction p with
  | nil => intro cur r; simp
  | cons c t ih =>
    intro cur r
    have hc : c ≠ 32 := fun e => h (by simp [e])
    rw [List.cons_append, cutsFrom, if_neg hc, ih (fun e => h (by simp [e]))]
    simp
theorem cuts_join : ∀ (ps : List (List UInt8)), ps ≠ [] → (∀ p ∈ ps, (32 : UInt8) ∉ p) → cutsFrom [] (Lib.join ps [32]) = ps
  | [], h, _ => absurd rfl h
  | [p], _, hn => by
    rw [Lib.join_one]
    have := cuts_plain p (hn p (by simp)) [] []
    simp at this
    rw [this]
    rfl
  | p :: q :: r, _, hn => by
    have ih := cuts_join (q :: r) (by simp) (fun x hx => hn x (by simp at hx ⊢; right; exact hx))
    rw [join_two, cuts_plain p (hn p (by simp))]
    rw [List.nil_append, List.singleton_append, cutsFrom, if_pos rfl, ih]

/-- the words of a plan's text. -/
theorem cuts_text {p : Plan} (h : validB p = true) : cutsFrom [] (textP p) = wordsP p := cuts_join _ (words_ne p) (words_blank h)
theorem split_text {p : Plan} (h : validB p = true) (k : Nat) (hk : 10 ≤ k) (n : Nat) (hn : n = (textP p).length) : Lib.splitK [32] 0 (min (k + 2) (n + 1) - 1) (textP p) = wordsP p := by
  have h1 := words_len p
  have h2 := (valid_parts h).2.2.2.2.2.2.1
  have h3 := join_room (wordsP p)
  subst hn
  unfold textP at *
  exact split_join _ _ (words_ne p) (words_blank h) (by omega)

/-- the same plan: code, urgency and kinds. -/
def SameP (p q : Plan) : Prop := p.code = q.code ∧ p.urg = q.urg ∧ p.kinds = q.kinds
theorem map_inj_on {α β : Type} {f : α → β} {P : α → Prop} (hf : ∀ a b, P a → P b → f a = f b → a = b) : ∀ {l r : List α}, (∀ a ∈ l, P a) → (∀ a ∈ r, P a) → l.map f = r.map f → l = r
  | [], [], _, _, _ => rfl
  | [], b :: r, _, _, h => by cases h
  | a :: l, [], _, _, h => by cases h
  | a :: l, b :: r, hl, hr, h => by
    simp only [List.map_cons, List.cons.injEq] at h
    rw [hf a b (hl a (by simp)) (hr b (by simp)) h.1, map_inj_on hf (fun x hx => hl x (by simp [hx])) (fun x hx => hr x (by simp [hx])) h.2]
theorem text_inj {p q : Plan} (hp : validB p = true) (hq : validB q = true) (h : textP p = textP q) : SameP p q := by
  have e : wordsP p = wordsP q := by rw [← cuts_text hp, h, cuts_text hq]
  unfold wordsP at e
  simp only [List.cons.injEq, true_and] at e
  obtain ⟨e1, e2, e3⟩ := e
  obtain ⟨_, _, _, a1, _, _, _, a2⟩ := valid_parts hp
  obtain ⟨_, _, _, b1, _, _, _, b2⟩ := valid_parts hq
  refine ⟨by rw [bs_of p.code, bs_of q.code, e1], ?_, ?_⟩
  · have := dec_inj e2
    omega
  · refine map_inj_on (P := fun k => kindB k = true) (fun a b ha hb h => ?_) a2 b2 e3
    rw [← num_name ha, ← num_name hb, h]

theorem dec_one {n : Int} (h0 : 0 ≤ n) (h1 : n < 10) : Lib.decDigits n.toNat = [UInt8.ofNat (48 + n.toNat)] := dec_small (by omega)
theorem text_len {p : Plan} (h : validB p = true) : (textP p).length ≤ 200 := by
  obtain ⟨_, h2, _, h4, h5, _, h7, _⟩ := valid_parts h
  have key : ∀ l : List Int, (Lib.joinTail [32] (l.map kindName)).length ≤ 7 * l.length := by
    intro l
    induction l with
    | nil => simp [Lib.joinTail]
    | cons k l ih =>
      have e : (kindName k).length ≤ 6 := by
        unfold kindName
        split
        · simp
        · split
          · simp
          · split <;> simp
      have : Lib.joinTail [32] ((k :: l).map kindName) = ([32] : List UInt8) ++ kindName k ++ Lib.joinTail [32] (l.map kindName) := by
        simp [Lib.joinTail]
      rw [this]
      simp only [List.length_append, List.length_cons, List.length_nil]
      omega
  have hk := key p.kinds
  have hc : p.code.data.toList.length = p.code.size := by simp
  have e : textP p = planW ++ ([32] ++ p.code.data.toList ++ ([32] ++ Lib.decDigits p.urg.toNat ++ Lib.joinTail [32] (p.kinds.map kindName))) := by
    unfold textP wordsP
    rw [Lib.join_cons]
    simp [Lib.joinTail]
  rw [e, dec_one (by omega) (by omega)]
  simp only [List.length_append, List.length_cons, List.length_nil, planW]
  omega
end Go.Proofs.YtcpplebgocbnhaaDoor
