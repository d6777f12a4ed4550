/-
  The text of a protocol, in plain Lean; what its lines are read as.
-/
import Derived.Test.YtbbklideciappaaGreatDoorPqA
import Derived.Test.YtbbklideciappaaGreatDoorNum
import Derived.Lib.LastIndexLaws
namespace Go.Proofs.YtbbklideciappaaGreatDoor
open Go.RowKit

def dec (z : Int) : List UInt8 := Lib.decDigits z.toNat
def wProt : List UInt8 := [112, 114, 111, 116, 111, 99, 111, 108]
def lHead (n : ByteArray) (v : Int) : List UInt8 := wProt ++ ([32] ++ (n.data.toList ++ ([32] ++ dec v)))
def tailA (a : Ans) : List UInt8 := if 0 ≤ a.next then 32 :: 62 :: 32 :: dec a.next else 32 :: 61 :: 32 :: (dec a.urg ++ (32 :: a.code.data.toList))
def bodyA (a : Ans) : List UInt8 := a.text.data.toList ++ tailA a
def lAns (a : Ans) : List UInt8 := 45 :: 32 :: bodyA a
def lQues (t : ByteArray) : List UInt8 := 63 :: 32 :: t.data.toList
def linesQ (q : Ques) : List (List UInt8) := lQues q.text :: q.ans.map lAns
def linesP (p : Prot) : List (List UInt8) := lHead p.name p.ver :: p.qs.flatMap linesQ
def joinL (L : List (List UInt8)) : List UInt8 := L.flatMap (fun l => l ++ [10])
def textP (p : Prot) : List UInt8 := joinL (linesP p)
theorem joinL_app (A B : List (List UInt8)) : joinL (A ++ B) = joinL A ++ joinL B := List.flatMap_append
theorem joinL_one (l : List UInt8) : joinL [l] = l ++ [10] := by simp [joinL]
theorem lines_of : ∀ (s : List UInt8), ∃ L t, s = joinL L ++ t ∧ (∀ l ∈ L, (10 : UInt8) ∉ l) ∧ (10 : UInt8) ∉ t
  | [] => ⟨[], [], rfl, (fun l h => by cases h), by simp⟩
  | c :: r => by
    obtain ⟨L, t, h1, h2, h3⟩ := lines_of r
    by_cases hc : c = 10
    · subst hc
      refine ⟨[] :: L, t, by rw [h1]; simp [joinL], fun l hl => ?_, h3⟩
      rcases List.mem_cons.1 hl with rfl | hl
      · simp
      · exact h2 l hl
    · cases L with
      | nil => exact ⟨[], c :: t, by rw [h1]; rfl, (fun l h => by cases h), by simp [h3]; exact fun e => hc e.symm⟩
      | cons l r' =>
        refine ⟨(c :: l) :: r', t, by rw [h1]; simp [joinL], fun x hx => ?_, h3⟩
        rcases List.mem_cons.1 hx with rfl | hx
        · have := h2 l (by simp)
          simp [this]
          exact fun e => hc e.symm
        · exact h2 x (by simp [hx])
theorem ten_first : ∀ {l r l' r' : List UInt8}, (10 : UInt8) ∉ l → (10 : UInt8) ∉ l' → l ++ 10 :: r = l' ++ 10 :: r' → l = l' ∧ r = r'
  | [], r, [], r', _, _, h => by simpa using h
  | [], r, c :: l', r', _, h2, h => by
    injection h with h3 h4
    exact absurd (by simp [← h3]) h2
  | c :: l, r, [], r', h1, _, h => by
    injection h with h3 h4
    exact absurd (by simp [h3]) h1
  | c :: l, r, d :: l', r', h1, h2, h => by
    injection h with h3 h4
    obtain ⟨e1, e2⟩ := ten_first (fun m => h1 (by simp [m])) (fun m => h2 (by simp [m])) h4
    exact ⟨by rw [h3, e1], e2⟩

/-- at i stands one of the two separators of an answer. -/
def SepAt (l : List UInt8) (i : Nat) : Prop := ∃ c r, (c = 62 ∨ c = 61) ∧ l.drop i = 32 :: c :: 32 :: r
def LastSep (l : List UInt8) (i : Nat) : Prop := SepAt l i ∧ ∀ j, i < j → ¬ SepAt l j
theorem LastSep.uni {l : List UInt8} {i j : Nat} (h : LastSep l i) (k : LastSep l j) : i = j := by
  rcases Nat.lt_trichotomy i j with q | q | q
  · exact absurd k.1 (h.2 j q)
  · exact q
  · exact absurd h.1 (k.2 i q)
/-- an answer as it may stand in a text. -/
def OkA (a : Ans) : Prop := PhraseOk a.text 100 ∧ ((a.next = -1 ∧ (1 ≤ a.urg ∧ a.urg ≤ 5) ∧ CodeOk a.code) ∨ ((0 ≤ a.next ∧ a.next < 64) ∧ a.urg = 0 ∧ a.code.size = 0))
theorem dec_none {n : Nat} {x : UInt8} (h : ¬ isDig x) : x ∉ Lib.decDigits n := fun hm => h (dec_dig n x hm)
theorem count_zero {x : UInt8} {l : List UInt8} (h : x ∉ l) : l.count x = 0 := List.count_eq_zero.2 h
theorem code_none {s : ByteArray} (h : CodeOk s) : (32 : UInt8) ∉ s.data.toList := fun hm => by
  have := (h.2 _ hm).1
  have e : (32 : UInt8).toNat = 32 := rfl
  omega
theorem not_sep {l : List UInt8} (h : l.count 32 ≤ 1) (i : Nat) : ¬ SepAt l i := by
  rintro ⟨c, r, _, e⟩
  have h1 : (l.drop i).count 32 ≤ l.count 32 := (List.drop_sublist i l).count_le 32
  rw [e] at h1
  have h2 : (32 :: c :: 32 :: r : List UInt8).count 32 ≥ 2 := by
    simp only [List.count_cons]
    simp
    omega
  omega
theorem tail_last {rest : List UInt8} {c d : UInt8} {r : List UInt8} (hc : c = 62 ∨ c = 61) (hr : rest = d :: r) (hd : isDig d) (h1 : rest.count 32 ≤ 1) : ∀ j, 0 < j → ¬ SepAt (32 :: c :: 32 :: rest) j
  | 0, h => absurd h (by omega)
  | 1, _ => by
    rintro ⟨x, y, _, e⟩
    simp only [List.drop_succ_cons, List.drop_zero] at e
    injection e with e1 e2
    rcases hc with rfl | rfl <;> cases e1
  | 2, _ => by
    rintro ⟨x, y, hx, e⟩
    simp only [List.drop_succ_cons, List.drop_zero] at e
    rw [hr] at e
    injection e with e1 e2
    injection e2 with e3 e4
    subst e3
    unfold isDig at hd
    rcases hx with rfl | rfl
    · have e : (62 : UInt8).toNat = 62 := rfl
      omega
    · have e : (61 : UInt8).toNat = 61 := rfl
      omega
  | j + 3, _ => by
    rintro ⟨x, y, hx, e⟩
    simp only [List.drop_succ_cons] at e
    exact not_sep h1 j ⟨x, y, hx, e⟩
theorem dec_head (n : Nat) : ∃ d r, Lib.decDigits n = d :: r ∧ isDig d := by
  cases h : Lib.decDigits n with
  | nil => exact absurd h (dec_ne n)
  | cons d r => exact ⟨d, r, rfl, dec_dig n d (by rw [h]; simp)⟩
theorem no32 : ¬ isDig 32 := by unfold isDig; decide
theorem no10 : ¬ isDig 10 := by unfold isDig; decide
theorem sep_key (t tl : List UInt8) (h0 : SepAt tl 0) (h1 : ∀ j, 0 < j → ¬ SepAt tl j) : LastSep (t ++ tl) t.length := by
  obtain ⟨c, r, hc, e⟩ := h0
  refine ⟨⟨c, r, hc, by rw [List.drop_left]; exact e⟩, fun j hj => ?_⟩
  rintro ⟨c, r, hc, e⟩
  rw [List.drop_append, List.drop_eq_nil_of_le (by omega), List.nil_append] at e
  exact h1 (j - t.length) (by omega) ⟨c, r, hc, e⟩
theorem sep_body {a : Ans} (h : OkA a) : LastSep (bodyA a) a.text.data.toList.length := by
  unfold bodyA tailA
  by_cases hn : 0 ≤ a.next
  · rw [if_pos hn]
    obtain ⟨d, r, e, hd⟩ := dec_head a.next.toNat
    exact sep_key _ _ ⟨62, _, .inl rfl, rfl⟩ (tail_last (.inl rfl) e hd (by rw [show dec a.next = Lib.decDigits a.next.toNat from rfl, count_zero (dec_none no32)]; omega))
  · rw [if_neg hn]
    have hc : CodeOk a.code := by
      rcases h.2 with q | q
      · exact q.2.2
      · omega
    obtain ⟨d, r, e, hd⟩ := dec_head a.urg.toNat
    refine sep_key _ _ ⟨61, _, .inr rfl, rfl⟩ (tail_last (d := d) (r := r ++ (32 :: a.code.data.toList)) (.inr rfl) (by unfold dec; rw [e]; rfl) hd ?_)
    rw [List.count_append, show dec a.urg = Lib.decDigits a.urg.toNat from rfl, count_zero (dec_none no32), List.count_cons, count_zero (code_none hc)]
    simp
/-- the line x is read as the answer a. -/
def IsAns (x : List UInt8) (a : Ans) : Prop := x = bodyA a ∧ OkA a
theorem toList_inj {a b : ByteArray} (h : a.data.toList = b.data.toList) : a = b := by
  apply ByteArray.ext
  exact Array.toList_inj.1 h
theorem size_nil {s : ByteArray} (h : s.size = 0) : s = ⟨#[]⟩ := toList_inj (List.eq_nil_of_length_eq_zero (by simpa using h))
theorem dec_inj' {a b : Int} (ha : 0 ≤ a) (hb : 0 ≤ b) (h : dec a = dec b) : a = b := by
  have := dec_inj h
  omega
theorem dec_cut {a b : Nat} {c d : List UInt8} (h : Lib.decDigits a ++ 32 :: c = Lib.decDigits b ++ 32 :: d) : Lib.decDigits a = Lib.decDigits b ∧ c = d := by
  have key : ∀ {l r l' r' : List UInt8}, (32 : UInt8) ∉ l → (32 : UInt8) ∉ l' → l ++ 32 :: r = l' ++ 32 :: r' → l = l' ∧ r = r' := by
    intro l
    induction l with
    | nil =>
      intro r l' r' _ h2 h
      cases l' with
      | nil => simpa using h
      | cons c l' =>
        injection h with h3 h4
        exact absurd (by simp [← h3]) h2
    | cons c l ih =>
      intro r l' r' h1 h2 h
      cases l' with
      | nil =>
        injection h with h3 h4
        exact absurd (by simp [h3]) h1
      | cons d l' =>
        injection h with h3 h4
        obtain ⟨e1, e2⟩ := ih (fun m => h1 (by simp [m])) (fun m => h2 (by simp [m])) h4
        exact ⟨by rw [h3, e1], e2⟩
  exact key (dec_none no32) (dec_none no32) h
theorem IsAns.uni {x : List UInt8} {a b : Ans} (h : IsAns x a) (k : IsAns x b) : a = b := by
  obtain ⟨h1, h2⟩ := h
  obtain ⟨k1, k2⟩ := k
  have hl := sep_body h2
  have kl := sep_body k2
  rw [← h1] at hl
  rw [← k1] at kl
  have e := hl.uni kl
  rw [k1] at h1
  unfold bodyA at h1
  obtain ⟨e1, e2⟩ := List.append_inj h1 e.symm
  have et := toList_inj e1
  obtain ⟨ta, na, ua, ca⟩ := a
  obtain ⟨tb', nb, ub, cb⟩ := b
  dsimp only at et
  unfold tailA at e2
  rcases h2.2 with p | p
  · rcases k2.2 with q | q
    · obtain ⟨p1, p2, p3⟩ := p
      obtain ⟨q1, q2, q3⟩ := q
      dsimp only at p1 p2 q1 q2 e2
      rw [if_neg (by omega), if_neg (by omega)] at e2
      injection e2 with _ e2
      injection e2 with _ e2
      injection e2 with _ e2
      obtain ⟨e3, e4⟩ := dec_cut e2
      have e5 := dec_inj e3
      have e6 := toList_inj e4
      have e7 : ua = ub := by omega
      rw [← et, e6, e7, p1, q1]
    · obtain ⟨p1, _⟩ := p
      obtain ⟨q1, _⟩ := q
      dsimp only at p1 q1 e2
      rw [if_pos (by omega), if_neg (by omega)] at e2
      injection e2 with _ e2
      injection e2 with e2 _
      cases e2
  · rcases k2.2 with q | q
    · obtain ⟨p1, _⟩ := p
      obtain ⟨q1, _⟩ := q
      dsimp only at p1 q1 e2
      rw [if_neg (by omega), if_pos (by omega)] at e2
      injection e2 with _ e2
      injection e2 with e2 _
      cases e2
    · obtain ⟨p1, p2, p3⟩ := p
      obtain ⟨q1, q2, q3⟩ := q
      dsimp only at p1 p2 p3 q1 q2 q3 e2
      rw [if_pos (by omega), if_pos (by omega)] at e2
      injection e2 with _ e2
      injection e2 with _ e2
      injection e2 with _ e2
      have e5 : nb = na := dec_inj' (by omega) (by omega) e2
      rw [← et, e5, p2, q2, size_nil p3, size_nil q3]
/-- the line is read as the name n and the version v. -/
def IsHead (l : List UInt8) (n : ByteArray) (v : Int) : Prop := l = lHead n v ∧ NameOk n ∧ VerOk v
theorem name_none {s : ByteArray} (h : NameOk s) : (32 : UInt8) ∉ s.data.toList ∧ (10 : UInt8) ∉ s.data.toList := by
  refine ⟨fun hm => ?_, fun hm => ?_⟩
  · have := h.2 _ hm
    unfold NameByte at this
    have e : (32 : UInt8).toNat = 32 := rfl
    omega
  · have := h.2 _ hm
    unfold NameByte at this
    have e : (10 : UInt8).toNat = 10 := rfl
    omega
theorem blank_first : ∀ {l r l' r' : List UInt8}, (32 : UInt8) ∉ l → (32 : UInt8) ∉ l' → l ++ 32 :: r = l' ++ 32 :: r' → l = l' ∧ r = r'
  | [], r, [], r', _, _, h => by simpa using h
  | [], r, c :: l', r', _, h2, h => by
    injection h with h3 h4
    exact absurd (by simp [← h3]) h2
  | c :: l, r, [], r', h1, _, h => by
    injection h with h3 h4
    exact absurd (by simp [h3]) h1
  | c :: l, r, d :: l', r', h1, h2, h => by
    injection h with h3 h4
    obtain ⟨e1, e2⟩ := blank_first (fun m => h1 (by simp [m])) (fun m => h2 (by simp [m])) h4
    exact ⟨by rw [h3, e1], e2⟩
theorem IsHead.uni {l : List UInt8} {n m : ByteArray} {v z : Int} (h : IsHead l n v) (k : IsHead l m z) : n = m ∧ v = z := by
  obtain ⟨h1, h2, h3⟩ := h
  obtain ⟨k1, k2, k3⟩ := k
  rw [k1] at h1
  unfold lHead at h1
  have e := List.append_cancel_left (List.append_cancel_left h1)
  obtain ⟨e1, e2⟩ := blank_first (name_none k2).1 (name_none h2).1 e
  exact ⟨(toList_inj e1).symm, (dec_inj' (by have := k3.1; omega) (by have := h3.1; omega) e2).symm⟩
end Go.Proofs.YtbbklideciappaaGreatDoor
