/-
  What Parse makes of a text, in plain Lean: line by line; the text of a valid protocol is read as that protocol.
-/
import Derived.Test.YtbbklideciappaaGreatDoorPqT
namespace Go.Proofs.YtbbklideciappaaGreatDoor
open Go.RowKit

theorem snoc_ind {α : Type} {P : List α → Prop} (h0 : P []) (h1 : ∀ l a, P l → P (l ++ [a])) (l : List α) : P l := by
  have key : ∀ r : List α, P r.reverse := by
    intro r
    induction r with
    | nil => exact h0
    | cons a r ih =>
      rw [List.reverse_cons]
      exact h1 _ _ ih
  have := key l.reverse
  rwa [List.reverse_reverse] at this
/-- what a protocol holds, without where it lies. -/
structure Con where
  name : ByteArray
  ver : Int
  qs : List (ByteArray × List Ans)
def conQ (q : Ques) : ByteArray × List Ans := (q.text, q.ans)
def conOf (p : Prot) : Con := ⟨p.name, p.ver, p.qs.map conQ⟩
/-- the last question gets one more answer. -/
def addA (c : Con) (a : Ans) : Con := { c with qs := c.qs.dropLast ++ (match c.qs.getLast? with
  | some q => [(q.1, q.2 ++ [a])]
  | none => []) }
def addQ (c : Con) (t : ByteArray) : Con := { c with qs := c.qs ++ [(t, [])] }
inductive StepL (c : Con) (l : List UInt8) : Con → Prop where
  | ques (t : ByteArray) (hl : l = lQues t) (ht : PhraseOk t 200) : StepL c l (addQ c t)
  | ans (x : List UInt8) (a : Ans) (hl : l = 45 :: 32 :: x) (ha : IsAns x a) (hn : c.qs ≠ []) : StepL c l (addA c a)
theorem StepL.uni {c d e : Con} {l : List UInt8} (h : StepL c l d) (k : StepL c l e) : d = e := by
  cases h with
  | ques t hl ht =>
    cases k with
    | ques u kl ku =>
      rw [kl] at hl
      unfold lQues at hl
      injection hl with _ hl
      injection hl with _ hl
      rw [toList_inj hl]
    | ans x a kl _ _ =>
      rw [kl] at hl
      unfold lQues at hl
      injection hl with hl _
      cases hl
  | ans x a hl ha hn =>
    cases k with
    | ques u kl ku =>
      rw [kl] at hl
      unfold lQues at hl
      injection hl with hl _
      cases hl
    | ans y b kl kb _ =>
      rw [kl] at hl
      injection hl with _ hl
      injection hl with _ hl
      subst hl
      rw [ha.uni kb]
inductive Run : Con → List (List UInt8) → Con → Prop where
  | nil (c : Con) : Run c [] c
  | snoc {c d e : Con} {L : List (List UInt8)} {l : List UInt8} (h : Run c L d) (hs : StepL d l e) : Run c (L ++ [l]) e
theorem snoc_inj {α : Type} {L M : List α} {l m : α} (h : L ++ [l] = M ++ [m]) : L = M ∧ l = m := by
  have := List.append_inj' h rfl
  exact ⟨this.1, by simpa using this.2⟩
theorem Run.inv {c e : Con} {L : List (List UInt8)} (h : Run c L e) : (L = [] ∧ e = c) ∨ ∃ M l d, L = M ++ [l] ∧ Run c M d ∧ StepL d l e := by
  cases h with
  | nil => exact .inl ⟨rfl, rfl⟩
  | snoc h hs => exact .inr ⟨_, _, _, rfl, h, hs⟩
theorem Run.uni {c d : Con} {L : List (List UInt8)} (h : Run c L d) : ∀ {e : Con}, Run c L e → d = e := by
  induction h with
  | nil =>
    intro e k
    rcases k.inv with ⟨_, k⟩ | ⟨M, l, _, k, _⟩
    · exact k.symm
    · simp at k
  | snoc h hs ih =>
    intro e k
    rcases k.inv with ⟨k, _⟩ | ⟨M, l, x, k, k1, k2⟩
    · simp at k
    · obtain ⟨e1, e2⟩ := snoc_inj k
      subst e1 e2
      have := ih k1
      subst this
      exact hs.uni k2
theorem Run.cut {c d : Con} {L M : List (List UInt8)} (h : Run c (L ++ M) d) : ∃ e, Run c L e := by
  induction M using snoc_ind generalizing d with
  | h0 => exact ⟨d, by simpa using h⟩
  | h1 M m ih =>
    rw [← List.append_assoc] at h
    rcases h.inv with ⟨k, _⟩ | ⟨N, l, x, k, k1, k2⟩
    · simp at k
    · obtain ⟨e1, e2⟩ := snoc_inj k
      rw [e1] at ih
      exact ih k1
/-- the contents are those of a valid protocol. -/
def ConOk (c : Con) : Prop := ∀ p : Prot, conOf p = c → ProtOk p
def empC : Con := ⟨⟨#[]⟩, 0, []⟩
/-- what Parse returns at the lines L and the rest t. -/
inductive Parses (L : List (List UInt8)) (t : List UInt8) : Con → Int → Int → Prop where
  | none (h : L = []) : Parses L t empC 1 2
  | head (l : List UInt8) (r : List (List UInt8)) (h : L = l :: r) (hh : ∀ n v, ¬ IsHead l n v) : Parses L t empC 1 2
  | line (l : List UInt8) (r : List (List UInt8)) (h : L = l :: r) (n : ByteArray) (v : Int) (hh : IsHead l n v) (k : Nat) (c : Con) (hr : Run ⟨n, v, []⟩ (r.take k) c) (x : List UInt8) (hx : r[k]? = some x) (hs : ∀ d, ¬ StepL c x d) : Parses L t empC (k + 2) 2
  | tail (l : List UInt8) (r : List (List UInt8)) (h : L = l :: r) (n : ByteArray) (v : Int) (hh : IsHead l n v) (c : Con) (hr : Run ⟨n, v, []⟩ r c) (ht : t ≠ []) : Parses L t empC (r.length + 2) 2
  | bad (l : List UInt8) (r : List (List UInt8)) (h : L = l :: r) (n : ByteArray) (v : Int) (hh : IsHead l n v) (c : Con) (hr : Run ⟨n, v, []⟩ r c) (ht : t = []) (hc : ¬ ConOk c) : Parses L t empC 0 1
  | fine (l : List UInt8) (r : List (List UInt8)) (h : L = l :: r) (n : ByteArray) (v : Int) (hh : IsHead l n v) (c : Con) (hr : Run ⟨n, v, []⟩ r c) (ht : t = []) (hc : ConOk c) : Parses L t c 0 0
theorem Run.le {c d : Con} {r : List (List UInt8)} {k : Nat} (h : Run c r d) : ∃ e, Run c (r.take k) e := by
  rw [← List.take_append_drop k r] at h
  exact h.cut
theorem Run.step {c d : Con} {r : List (List UInt8)} {k : Nat} {x : List UInt8} (h : Run c r d) (hx : r[k]? = some x) {e : Con} (he : Run c (r.take k) e) : ∃ f, StepL e x f := by
  obtain ⟨f, hf⟩ := Run.le (k := k + 1) h
  rw [take_snoc' hx] at hf
  rcases hf.inv with ⟨q, _⟩ | ⟨N, l, y, q, q1, q2⟩
  · simp at q
  · obtain ⟨e1, e2⟩ := snoc_inj q
    subst e1 e2
    rw [he.uni q1]
    exact ⟨f, q2⟩
theorem line_uni {r : List (List UInt8)} {c0 c d : Con} {k j : Nat} {x y : List UInt8} (hr : Run c0 (r.take k) c) (hx : r[k]? = some x) (hs : ∀ d, ¬ StepL c x d) (hr' : Run c0 (r.take j) d) (hy : r[j]? = some y) (hs' : ∀ e, ¬ StepL d y e) : k = j := by
  have key : ∀ {k j : Nat} {x y : List UInt8} {c d : Con}, Run c0 (r.take k) c → r[k]? = some x → (∀ d, ¬ StepL c x d) → Run c0 (r.take j) d → k < j → False := by
    intro k j x y c d hr hx hs hr' hlt
    have e : (r.take j).take k = r.take k := by rw [List.take_take]; congr 1; omega
    have e2 : (r.take j)[k]? = some x := by rw [List.getElem?_take_of_lt hlt]; exact hx
    rw [← e] at hr
    obtain ⟨f, hf⟩ := hr'.step e2 hr
    exact hs f hf
  rcases Nat.lt_trichotomy k j with q | q | q
  · exact (key (y := y) hr hx hs hr' q).elim
  · exact q
  · exact (key (y := x) hr' hy hs' hr q).elim
theorem Parses.uni {L : List (List UInt8)} {t : List UInt8} {c d : Con} {a b x y : Int} (h : Parses L t c a b) (k : Parses L t d x y) : c = d ∧ a = x ∧ b = y := by
  have hd : ∀ {l l' : List UInt8} {r r' : List (List UInt8)} {n n' : ByteArray} {v v' : Int}, L = l :: r → L = l' :: r' → IsHead l n v → IsHead l' n' v' → r = r' ∧ n = n' ∧ v = v' := by
    intro l l' r r' n n' v v' e e' h h'
    rw [e] at e'
    injection e' with e1 e2
    subst e1 e2
    exact ⟨rfl, h.uni h'⟩
  cases h with
  | none e =>
    cases k with
    | none _ => exact ⟨rfl, rfl, rfl⟩
    | head l r e' _ => rw [e] at e'; cases e'
    | line l r e' => rw [e] at e'; cases e'
    | tail l r e' => rw [e] at e'; cases e'
    | bad l r e' => rw [e] at e'; cases e'
    | fine l r e' => rw [e] at e'; cases e'
  | head l r e hh =>
    have no : ∀ {l' : List UInt8} {r' : List (List UInt8)} {n : ByteArray} {v : Int}, L = l' :: r' → ¬ IsHead l' n v := fun e' => by
      rw [e] at e'
      injection e' with e1 e2
      subst e1
      exact hh _ _
    cases k with
    | none e' => rw [e] at e'; cases e'
    | head l r e' _ => exact ⟨rfl, rfl, rfl⟩
    | line l r e' n v h' => exact absurd h' (no e')
    | tail l r e' n v h' => exact absurd h' (no e')
    | bad l r e' n v h' => exact absurd h' (no e')
    | fine l r e' n v h' => exact absurd h' (no e')
  | line l r e n v hh j c hr z hz hs =>
    cases k with
    | none e' => rw [e] at e'; cases e'
    | head l' r' e' h' => rw [e] at e'; injection e' with e1 e2; subst e1; exact absurd hh (h' _ _)
    | line l' r' e' n' v' h' j' c' hr' z' hz' hs' =>
      obtain ⟨e1, e2, e3⟩ := hd e e' hh h'
      subst e1 e2 e3
      have := line_uni hr hz hs hr' hz' hs'
      subst this
      exact ⟨rfl, rfl, rfl⟩
    | tail l' r' e' n' v' h' c' hr' =>
      obtain ⟨e1, e2, e3⟩ := hd e e' hh h'
      subst e1 e2 e3
      obtain ⟨f, hf⟩ := hr'.step hz hr
      exact absurd hf (hs f)
    | bad l' r' e' n' v' h' c' hr' =>
      obtain ⟨e1, e2, e3⟩ := hd e e' hh h'
      subst e1 e2 e3
      obtain ⟨f, hf⟩ := hr'.step hz hr
      exact absurd hf (hs f)
    | fine l' r' e' n' v' h' c' hr' =>
      obtain ⟨e1, e2, e3⟩ := hd e e' hh h'
      subst e1 e2 e3
      obtain ⟨f, hf⟩ := hr'.step hz hr
      exact absurd hf (hs f)
  | tail l r e n v hh c hr ht =>
    cases k with
    | none e' => rw [e] at e'; cases e'
    | head l' r' e' h' => rw [e] at e'; injection e' with e1 e2; subst e1; exact absurd hh (h' _ _)
    | line l' r' e' n' v' h' j' c' hr' z' hz' hs' =>
      obtain ⟨e1, e2, e3⟩ := hd e e' hh h'
      subst e1 e2 e3
      obtain ⟨f, hf⟩ := hr.step hz' hr'
      exact absurd hf (hs' f)
    | tail l' r' e' n' v' h' c' hr' =>
      obtain ⟨e1, e2, e3⟩ := hd e e' hh h'
      subst e1
      exact ⟨rfl, rfl, rfl⟩
    | bad l' r' e' n' v' h' c' hr' ht' => exact absurd ht' ht
    | fine l' r' e' n' v' h' c' hr' ht' => exact absurd ht' ht
  | bad l r e n v hh c hr ht hc =>
    cases k with
    | none e' => rw [e] at e'; cases e'
    | head l' r' e' h' => rw [e] at e'; injection e' with e1 e2; subst e1; exact absurd hh (h' _ _)
    | line l' r' e' n' v' h' j' c' hr' z' hz' hs' =>
      obtain ⟨e1, e2, e3⟩ := hd e e' hh h'
      subst e1 e2 e3
      obtain ⟨f, hf⟩ := hr.step hz' hr'
      exact absurd hf (hs' f)
    | tail l' r' e' n' v' h' c' hr' ht' => exact absurd ht ht'
    | bad l' r' e' n' v' h' c' hr' ht' => exact ⟨rfl, rfl, rfl⟩
    | fine l' r' e' n' v' h' c' hr' ht' hc' =>
      obtain ⟨e1, e2, e3⟩ := hd e e' hh h'
      subst e1 e2 e3
      rw [hr.uni hr'] at hc
      exact absurd hc' hc
  | fine l r e n v hh c hr ht hc =>
    cases k with
    | none e' => rw [e] at e'; cases e'
    | head l' r' e' h' => rw [e] at e'; injection e' with e1 e2; subst e1; exact absurd hh (h' _ _)
    | line l' r' e' n' v' h' j' c' hr' z' hz' hs' =>
      obtain ⟨e1, e2, e3⟩ := hd e e' hh h'
      subst e1 e2 e3
      obtain ⟨f, hf⟩ := hr.step hz' hr'
      exact absurd hf (hs' f)
    | tail l' r' e' n' v' h' c' hr' ht' => exact absurd ht ht'
    | bad l' r' e' n' v' h' c' hr' ht' hc' =>
      obtain ⟨e1, e2, e3⟩ := hd e e' hh h'
      subst e1 e2 e3
      rw [← hr.uni hr'] at hc'
      exact absurd hc hc'
    | fine l' r' e' n' v' h' c' hr' ht' hc' =>
      obtain ⟨e1, e2, e3⟩ := hd e e' hh h'
      subst e1 e2 e3
      exact ⟨hr.uni hr', rfl, rfl⟩
theorem ok_con {p q : Prot} (h : conOf p = conOf q) (hp : ProtOk p) : ProtOk q := by
  have h1 : p.name = q.name := congrArg Con.name h
  have h2 : p.ver = q.ver := congrArg Con.ver h
  have h3 : p.qs.map conQ = q.qs.map conQ := congrArg Con.qs h
  have hl : p.qs.length = q.qs.length := by simpa using congrArg List.length h3
  obtain ⟨⟨g1, g2, g3⟩, g4⟩ := hp
  refine ⟨⟨by rw [← h1]; exact g1, by rw [← h2]; exact g2, by rw [← hl]; exact g3⟩, fun x hx => ?_⟩
  have : conQ x ∈ p.qs.map conQ := by rw [h3]; exact List.mem_map.2 ⟨x, hx, rfl⟩
  obtain ⟨y, hy, e⟩ := List.mem_map.1 this
  have hq := g4 y hy
  have e1 : y.text = x.text := congrArg Prod.fst e
  have e2 : y.ans = x.ans := congrArg Prod.snd e
  unfold QuesOk at hq ⊢
  rw [e1, e2, hl] at hq
  exact hq
theorem ConOk.iff {p : Prot} : ConOk (conOf p) ↔ ProtOk p := ⟨fun h => h p rfl, fun h _ hq => ok_con hq.symm h⟩
/-- a valid protocol's answers are such as may stand in a text. -/
theorem ok_ans {p : Prot} (h : ProtOk p) {q : Ques} (hq : q ∈ p.qs) {a : Ans} (ha : a ∈ q.ans) : OkA a := by
  obtain ⟨h1, h2⟩ := (h.2 q hq).2.2 a ha
  have := h.1.2.2.2
  refine ⟨h1, h2.imp id (fun k => ⟨⟨k.1.1, by omega⟩, k.2⟩)⟩
theorem run_ans {c : Con} {L : List (List UInt8)} {d : Con} {Q : List (ByteArray × List Ans)} {t : ByteArray} : ∀ (xs done : List Ans), (∀ a ∈ xs, OkA a) → Run c L d → d.qs = Q ++ [(t, done)] → ∃ e, Run c (L ++ xs.map lAns) e ∧ e = { d with qs := Q ++ [(t, done ++ xs)] } := by
  intro xs
  induction xs using snoc_ind with
  | h0 => intro done _ h hd; exact ⟨d, by simpa using h, by cases d; simp at hd ⊢; exact hd⟩
  | h1 xs a ih =>
    intro done hx h hd
    obtain ⟨e, h1, h2⟩ := ih done (fun x h => hx x (by simp [h])) h hd
    refine ⟨addA e a, ?_, ?_⟩
    · rw [List.map_append, ← List.append_assoc]
      exact .snoc h1 (.ans (bodyA a) a rfl ⟨rfl, hx a (by simp)⟩ (by rw [h2]; simp))
    · subst h2
      unfold addA
      simp
theorem run_qs {c : Con} : ∀ (qs : List Ques), (∀ q ∈ qs, PhraseOk q.text 200 ∧ ∀ a ∈ q.ans, OkA a) → Run c (qs.flatMap linesQ) { c with qs := c.qs ++ qs.map conQ } := by
  intro qs
  induction qs using snoc_ind with
  | h0 => intro _; simpa using Run.nil c
  | h1 qs q ih =>
    intro h
    have h1 := ih (fun x hx => h x (by simp [hx]))
    obtain ⟨h2, h3⟩ := h q (by simp)
    have h4 : Run c (qs.flatMap linesQ ++ [lQues q.text]) (addQ { c with qs := c.qs ++ qs.map conQ } q.text) := .snoc h1 (.ques q.text rfl h2)
    obtain ⟨e, h5, h6⟩ := run_ans q.ans [] h3 h4 (Q := c.qs ++ qs.map conQ) (t := q.text) rfl
    have e1 : (qs ++ [q]).flatMap linesQ = (qs.flatMap linesQ ++ [lQues q.text]) ++ q.ans.map lAns := by
      rw [List.flatMap_append, List.append_assoc]
      simp [linesQ]
    rw [e1]
    rw [h6] at h5
    have e2 : ({ c with qs := c.qs ++ (qs ++ [q]).map conQ } : Con) = { addQ { c with qs := c.qs ++ qs.map conQ } q.text with qs := (c.qs ++ qs.map conQ) ++ [(q.text, [] ++ q.ans)] } := by
      simp [addQ, conQ]
    rw [e2]
    exact h5
theorem ok_lines {p : Prot} (h : ProtOk p) : ∀ q ∈ p.qs, PhraseOk q.text 200 ∧ ∀ a ∈ q.ans, OkA a := fun q hq => ⟨(h.2 q hq).1, fun _ ha => ok_ans h hq ha⟩
theorem parses_text {p : Prot} (h : ProtOk p) : Parses (linesP p) [] (conOf p) 0 0 := by
  have hr := run_qs (c := ⟨p.name, p.ver, []⟩) p.qs (ok_lines h)
  refine .fine (lHead p.name p.ver) (p.qs.flatMap linesQ) rfl p.name p.ver ⟨rfl, h.1.1, h.1.2.1⟩ (conOf p) (by simpa [conOf] using hr) rfl (ConOk.iff.2 h)
end Go.Proofs.YtbbklideciappaaGreatDoor
