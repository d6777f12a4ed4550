/-
  The lines of a protocol's text hold no newline; how long the text is; what is left of it when it is cut off; two valid protocols are equal if their texts are.
-/
import Derived.Test.YtbbklideciappaaGreatDoorPqP
namespace Go.Proofs.YtbbklideciappaaGreatDoor
open Go.RowKit

theorem within_ten {l : List UInt8} {lo hi : Nat} (h : Within lo hi l) (h10 : 11 ≤ lo) : (10 : UInt8) ∉ l := fun hm => by
  have := (h _ hm).1
  have e : (10 : UInt8).toNat = 10 := rfl
  omega
theorem dec_ten (z : Int) : (10 : UInt8) ∉ dec z := dec_none no10
theorem body_ten {a : Ans} (h : OkA a) : (10 : UInt8) ∉ bodyA a := by
  have h1 : (10 : UInt8) ∉ a.text.data.toList := within_ten h.1.1.2 (by omega)
  unfold bodyA tailA
  by_cases hn : 0 ≤ a.next
  · rw [if_pos hn]
    simp only [List.mem_append, List.mem_cons, not_or]
    exact ⟨h1, by decide, by decide, by decide, dec_ten _⟩
  · rw [if_neg hn]
    have hc : CodeOk a.code := by
      rcases h.2 with q | q
      · exact q.2.2
      · omega
    simp only [List.mem_append, List.mem_cons, not_or]
    exact ⟨h1, by decide, by decide, by decide, dec_ten _, by decide, within_ten hc.2 (by omega)⟩
theorem head_ten {p : Prot} (h : NameOk p.name) : (10 : UInt8) ∉ lHead p.name p.ver := by
  unfold lHead
  simp only [List.mem_append, List.mem_cons, List.mem_nil_iff, or_false, not_or]
  exact ⟨by decide, by decide, (name_none h).2, by decide, dec_ten _⟩
theorem lines_ten {p : Prot} (h : ProtOk p) : ∀ l ∈ linesP p, (10 : UInt8) ∉ l := by
  intro l hl
  unfold linesP at hl
  rcases List.mem_cons.1 hl with rfl | hl
  · exact head_ten h.1.1
  · obtain ⟨q, hq, hl⟩ := List.mem_flatMap.1 hl
    obtain ⟨h1, h2⟩ := ok_lines h q hq
    unfold linesQ at hl
    rcases List.mem_cons.1 hl with rfl | hl
    · unfold lQues
      simp only [List.mem_cons, not_or]
      exact ⟨by decide, by decide, within_ten h1.1.2 (by omega)⟩
    · obtain ⟨a, ha, rfl⟩ := List.mem_map.1 hl
      unfold lAns
      simp only [List.mem_cons, not_or]
      exact ⟨by decide, by decide, body_ten (h2 a ha)⟩
theorem dec_len {z : Int} (h : z < 1000000000000000000) : (dec z).length ≤ 18 := by
  have : ∀ (m n : Nat), n < 10 ^ m → 0 < m → (Lib.decDigits n).length ≤ m := by
    intro m
    induction m with
    | zero => intro n _ h; omega
    | succ m ih =>
      intro n hn _
      by_cases h : n < 10
      · rw [dec_small h]; simp
      · rw [dec_big h, List.length_append]
        have hp : (10:Nat) ^ (m + 1) = 10 ^ m * 10 := Nat.pow_succ ..
        have h1 : n / 10 < 10 ^ m := by omega
        have hm : 0 < m := by
          rcases Nat.eq_zero_or_pos m with e | e
          · subst e; simp at hn; omega
          · exact e
        have := ih (n / 10) h1 hm
        simp
        omega
  exact this 18 z.toNat (by omega) (by omega)
theorem size_len (s : ByteArray) : s.data.toList.length = s.size := by simp
theorem body_len {a : Ans} (h : OkA a) : (bodyA a).length ≤ 200 := by
  have h1 := h.1.1.1.2
  unfold bodyA tailA
  by_cases hn : 0 ≤ a.next
  · rw [if_pos hn]
    have hnx : a.next < 64 := by
      rcases h.2 with q | q
      · omega
      · exact q.1.2
    have := dec_len (z := a.next) (by omega)
    simp only [List.length_append, List.length_cons, size_len]
    omega
  · rw [if_neg hn]
    have hc : CodeOk a.code ∧ a.urg ≤ 5 := by
      rcases h.2 with q | q
      · exact ⟨q.2.2, q.2.1.2⟩
      · omega
    have := dec_len (z := a.urg) (by omega)
    have := hc.1.1.2
    simp only [List.length_append, List.length_cons, size_len]
    omega
theorem joinL_len {L : List (List UInt8)} {m : Nat} (h : ∀ l ∈ L, l.length ≤ m) : (joinL L).length ≤ (m + 1) * L.length := by
  unfold joinL
  induction L with
  | nil => simp
  | cons l r ih =>
    have h1 := h l (by simp)
    have h2 := ih (fun x hx => h x (by simp [hx]))
    simp only [List.flatMap_cons, List.length_append, List.length_cons, List.length_nil] at h2 ⊢
    rw [Nat.mul_add, Nat.mul_one]
    omega
theorem line_len {p : Prot} (h : ProtOk p) : ∀ l ∈ linesP p, l.length ≤ 300 := by
  intro l hl
  unfold linesP at hl
  rcases List.mem_cons.1 hl with rfl | hl
  · have h1 := h.1.1.1.2
    have h2 := h.1.2.1.2
    have := dec_len (z := p.ver) (by omega)
    unfold lHead wProt
    simp only [List.length_append, List.length_cons, List.length_nil, size_len]
    omega
  · obtain ⟨q, hq, hl⟩ := List.mem_flatMap.1 hl
    obtain ⟨h1, h2⟩ := ok_lines h q hq
    unfold linesQ at hl
    rcases List.mem_cons.1 hl with rfl | hl
    · have := h1.1.1.2
      unfold lQues
      simp only [List.length_cons, size_len]
      omega
    · obtain ⟨a, ha, rfl⟩ := List.mem_map.1 hl
      have := body_len (h2 a ha)
      unfold lAns
      simp only [List.length_cons]
      omega
theorem lines_count {p : Prot} (h : ProtOk p) : (linesP p).length ≤ 1089 := by
  have key : ∀ qs : List Ques, (∀ q ∈ qs, q.ans.length ≤ 16) → (qs.flatMap linesQ).length ≤ 17 * qs.length := by
    intro qs
    induction qs with
    | nil => intro _; simp
    | cons q r ih =>
      intro h
      have h1 := h q (by simp)
      have h2 := ih (fun x hx => h x (by simp [hx]))
      simp only [List.flatMap_cons, List.length_append, List.length_cons, linesQ, List.length_map] at h2 ⊢
      omega
  have h1 := key p.qs (fun q hq => (h.2 q hq).2.1.2)
  have h2 := h.1.2.2.2
  unfold linesP
  simp only [List.length_cons]
  omega
theorem text_len {p : Prot} (h : ProtOk p) : (textP p).length ≤ 330000 := by
  have h1 := joinL_len (line_len h)
  have h2 := lines_count h
  have h3 : (300 + 1) * (linesP p).length ≤ (300 + 1) * 1089 := Nat.mul_le_mul_left _ h2
  unfold textP
  omega
theorem join_inj : ∀ {L M : List (List UInt8)}, (∀ l ∈ L, (10 : UInt8) ∉ l) → (∀ l ∈ M, (10 : UInt8) ∉ l) → joinL L = joinL M → L = M
  | [], [], _, _, _ => rfl
  | [], m :: M, _, _, h => by simp [joinL] at h
  | l :: L, [], _, _, h => by simp [joinL] at h
  | l :: L, m :: M, h1, h2, h => by
    have e : l ++ 10 :: joinL L = m ++ 10 :: joinL M := by simpa [joinL] using h
    obtain ⟨e1, e2⟩ := ten_first (h1 l (by simp)) (h2 m (by simp)) e
    rw [e1, join_inj (fun x hx => h1 x (by simp [hx])) (fun x hx => h2 x (by simp [hx])) e2]
theorem text_inj {p q : Prot} (hp : ProtOk p) (hq : ProtOk q) (h : textP p = textP q) : conOf p = conOf q := by
  have e := join_inj (lines_ten hp) (lines_ten hq) h
  have h1 := parses_text hp
  rw [e] at h1
  exact (h1.uni (parses_text hq)).1
theorem text_con {p q : Prot} (h : conOf p = conOf q) : textP p = textP q := by
  have h1 : p.name = q.name := congrArg Con.name h
  have h2 : p.ver = q.ver := congrArg Con.ver h
  have h3 : p.qs.map conQ = q.qs.map conQ := congrArg Con.qs h
  have key : ∀ qs : List Ques, qs.flatMap linesQ = (qs.map conQ).flatMap (fun x => lQues x.1 :: x.2.map lAns) := by
    intro qs
    rw [List.flatMap_map]
    rfl
  unfold textP linesP
  rw [h1, h2, key, key, h3]
/-- a text that is cut off: whole lines and the beginning of the next one. -/
theorem take_join : ∀ (L : List (List UInt8)) (k : Nat), k < (joinL L).length → ∃ m l j, L[m]? = some l ∧ j ≤ l.length ∧ (joinL L).take k = joinL (L.take m) ++ l.take j
  | [], k, h => by simp [joinL] at h
  | l :: r, k, h => by
    have e : joinL (l :: r) = l ++ 10 :: joinL r := by simp [joinL]
    rw [e] at h ⊢
    by_cases hk : k ≤ l.length
    · refine ⟨0, l, k, rfl, hk, ?_⟩
      rw [List.take_append_of_le_length hk]
      rfl
    · rw [List.length_append, List.length_cons] at h
      obtain ⟨m, x, j, h1, h2, h3⟩ := take_join r (k - l.length - 1) (by omega)
      refine ⟨m + 1, x, j, h1, h2, ?_⟩
      have e2 : k = l.length + (k - l.length - 1 + 1) := by omega
      rw [e2, List.take_length_add_append, List.take_succ_cons, h3]
      simp [joinL]
theorem cut_parses {p : Prot} (h : ProtOk p) {m : Nat} {l t : List UInt8} (hl : (linesP p)[m]? = some l) {c : Con} {a b : Int} (hp : Parses ((linesP p).take m) t c a b) :
    (m = 0 ∨ t ≠ [] → a = m + 1 ∧ b = 2 ∧ c = empC) ∧ (0 < m → t = [] → a = 0 ∧ (b = 0 ∨ (b = 1 ∧ c = empC))) := by
  have hm : m < (linesP p).length := (List.getElem?_eq_some_iff.1 hl).1
  cases m with
  | zero =>
    have := hp.uni (.none rfl)
    exact ⟨fun _ => ⟨by rw [this.2.1]; rfl, this.2.2, this.1⟩, fun h => absurd h (by omega)⟩
  | succ m =>
    have e : (linesP p).take (m + 1) = lHead p.name p.ver :: (p.qs.flatMap linesQ).take m := rfl
    have hr := run_qs (c := ⟨p.name, p.ver, []⟩) p.qs (ok_lines h)
    obtain ⟨d, hd⟩ := hr.le (k := m)
    have hh : IsHead (lHead p.name p.ver) p.name p.ver := ⟨rfl, h.1.1, h.1.2.1⟩
    have hlen : ((p.qs.flatMap linesQ).take m).length = m := by
      have : (linesP p).length = (p.qs.flatMap linesQ).length + 1 := rfl
      rw [List.length_take]
      omega
    by_cases ht : t = []
    · refine ⟨fun q => ?_, fun _ _ => ?_⟩
      · rcases q with q | q
        · omega
        · exact absurd ht q
      · by_cases hc : ConOk d
        · have := hp.uni (.fine _ _ e _ _ hh d hd ht hc)
          exact ⟨this.2.1, .inl this.2.2⟩
        · have := hp.uni (.bad _ _ e _ _ hh d hd ht hc)
          exact ⟨this.2.1, .inr ⟨this.2.2, this.1⟩⟩
    · refine ⟨fun _ => ?_, fun _ q => absurd q ht⟩
      have := hp.uni (.tail _ _ e _ _ hh d hd ht)
      rw [hlen] at this
      exact ⟨by rw [this.2.1]; omega, this.2.2, this.1⟩
end Go.Proofs.YtbbklideciappaaGreatDoor
