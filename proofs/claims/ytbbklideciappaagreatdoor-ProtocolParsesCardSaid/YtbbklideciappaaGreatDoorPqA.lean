/-
  Protocols: how they lie in memory; what a valid one is (plain).
-/
import Derived.Test.YtbbklideciappaaGreatDoorTb
namespace Go.Proofs.YtbbklideciappaaGreatDoor
open Go.RowKit

/-- an answer. -/
structure Ans where
  text : ByteArray
  next : Int
  urg : Int
  code : ByteArray
/-- a question, its answers with their place. -/
structure Ques where
  text : ByteArray
  aA : Option Addr
  ans : List Ans
  ac : Nat
/-- a protocol, its questions with their place. -/
structure Prot where
  name : ByteArray
  ver : Int
  qA : Option Addr
  qs : List Ques
  qc : Nat
def cellsA (a : Ans) : List Value := [.string a.text, .int .i64 a.next, .int .i64 a.urg, .string a.code]
theorem cellsA_len (a : Ans) : (cellsA a).length = 4 := rfl
def cellsQ (q : Ques) : List Value := [.string q.text, .slice q.aA q.ans.length q.ac]
theorem cellsQ_len (q : Ques) : (cellsQ q).length = 2 := rfl
def Prot.cells (p : Prot) : List Value := [.string p.name, .int .i64 p.ver, .slice p.qA p.qs.length p.qc]
/-- the questions lie at A, their answers where they say. -/
structure QuesAt (w : World) (B : Nat) (A : Option Addr) (qs : List Ques) : Prop where
  row : RecsAt cellsQ w B A qs
  ans : ∀ q ∈ qs, RecsAt cellsA w B q.aA q.ans
theorem QuesAt.below {w w' : World} {B : Nat} {A : Option Addr} {qs : List Ques} (h : QuesAt w B A qs) (hb : Below B w w') : QuesAt w' B A qs := ⟨RecsAt.below h.row hb, fun q hq => RecsAt.below (h.ans q hq) hb⟩
theorem QuesAt.more {w : World} {B B' : Nat} {A : Option Addr} {qs : List Ques} (h : QuesAt w B A qs) (hB : B ≤ B') : QuesAt w B' A qs := ⟨RecsAt.more h.row hB, fun q hq => RecsAt.more (h.ans q hq) hB⟩
theorem QuesAt.empty {w : World} {B : Nat} {A : Option Addr} : QuesAt w B A [] := ⟨RecsAt.empty, fun q hq => by cases hq⟩
def ProtAt (w : World) (B : Nat) (p : Prot) : Prop := QuesAt w B p.qA p.qs
theorem ProtAt.below {w w' : World} {B : Nat} {p : Prot} (h : ProtAt w B p) (hb : Below B w w') : ProtAt w' B p := QuesAt.below h hb
theorem ProtAt.more {w : World} {B B' : Nat} {p : Prot} (h : ProtAt w B p) (hB : B ≤ B') : ProtAt w B' p := QuesAt.more h hB
theorem ans_at {w : World} {B : Nat} {A : Option Addr} {xs : List Ans} (h : RecsAt cellsA w B A xs) {i : Nat} {t : Ans} (hi : xs[i]? = some t) : ∃ b o, A = some ⟨b, o, none⟩ ∧ b < B ∧ w.cell? ⟨b, o + i * 4, none⟩ = some (.string t.text) ∧ w.cell? ⟨b, o + i * 4 + 1, none⟩ = some (.int .i64 t.next) ∧ w.cell? ⟨b, o + i * 4 + 2, none⟩ = some (.int .i64 t.urg) ∧ w.cell? ⟨b, o + i * 4 + 3, none⟩ = some (.string t.code) := by
  obtain ⟨b, o, e, hb, hc⟩ := RecsAt.at cellsA_len h hi (by decide)
  exact ⟨b, o, e, hb, hc 0 _ rfl, hc 1 _ rfl, hc 2 _ rfl, hc 3 _ rfl⟩
theorem ques_at {w : World} {B : Nat} {A : Option Addr} {xs : List Ques} (h : QuesAt w B A xs) {i : Nat} {t : Ques} (hi : xs[i]? = some t) : ∃ b o, A = some ⟨b, o, none⟩ ∧ b < B ∧ w.cell? ⟨b, o + i * 2, none⟩ = some (.string t.text) ∧ w.cell? ⟨b, o + i * 2 + 1, none⟩ = some (.slice t.aA t.ans.length t.ac) ∧ RecsAt cellsA w B t.aA t.ans := by
  obtain ⟨b, o, e, hb, hc⟩ := RecsAt.at cellsQ_len h.row hi (by decide)
  exact ⟨b, o, e, hb, hc 0 _ rfl, hc 1 _ rfl, h.ans t (List.mem_of_getElem? hi)⟩
/-- the lengths are such as a machine can hold, the integers such as an int can. -/
structure AnsWf (a : Ans) : Prop where
  text : a.text.size ≤ 9223372036854775807
  next : -9223372036854775808 ≤ a.next ∧ a.next ≤ 9223372036854775807
  urg : -9223372036854775808 ≤ a.urg ∧ a.urg ≤ 9223372036854775807
  code : a.code.size ≤ 9223372036854775807
structure QuesWf (q : Ques) : Prop where
  text : q.text.size ≤ 9223372036854775807
  len : q.ans.length ≤ q.ac ∧ q.ac ≤ 9223372036854775807
  ans : ∀ a ∈ q.ans, AnsWf a
structure ProtWf (p : Prot) : Prop where
  name : p.name.size ≤ 9223372036854775807
  ver : -9223372036854775808 ≤ p.ver ∧ p.ver ≤ 9223372036854775807
  len : p.qs.length ≤ p.qc ∧ p.qc ≤ 9223372036854775807
  qs : ∀ q ∈ p.qs, QuesWf q
/-- what the statements speak of. -/
structure SmallP (p : Prot) : Prop where
  name : p.name.size ≤ 8000
  qs : p.qs.length ≤ 70
  ques : ∀ q ∈ p.qs, q.text.size ≤ 8000 ∧ q.ans.length ≤ 20 ∧ ∀ a ∈ q.ans, a.text.size ≤ 8000 ∧ a.code.size ≤ 8000

/-- bytes from lo to hi. -/
def Within (lo hi : Nat) (l : List UInt8) : Prop := ∀ b ∈ l, lo ≤ b.toNat ∧ b.toNat ≤ hi
def CodeOk (s : ByteArray) : Prop := (1 ≤ s.size ∧ s.size ≤ 40) ∧ Within 33 126 s.data.toList
def PhraseOk (s : ByteArray) (most : Nat) : Prop := ((1 ≤ s.size ∧ s.size ≤ most) ∧ Within 32 126 s.data.toList) ∧ s.data.toList[0]? ≠ some 32 ∧ s.data.toList[s.size - 1]? ≠ some 32
def NameByte (b : UInt8) : Prop := (97 ≤ b.toNat ∧ b.toNat ≤ 122) ∨ (48 ≤ b.toNat ∧ b.toNat ≤ 57) ∨ b.toNat = 45
def NameOk (s : ByteArray) : Prop := (1 ≤ s.size ∧ s.size ≤ 40) ∧ ∀ b ∈ s.data.toList, NameByte b
def AnsOk (n : Int) (a : Ans) : Prop := PhraseOk a.text 100 ∧ ((a.next = -1 ∧ (1 ≤ a.urg ∧ a.urg ≤ 5) ∧ CodeOk a.code) ∨ ((0 ≤ a.next ∧ a.next < n) ∧ a.urg = 0 ∧ a.code.size = 0))
def QuesOk (n : Int) (q : Ques) : Prop := PhraseOk q.text 200 ∧ (1 ≤ q.ans.length ∧ q.ans.length ≤ 16) ∧ ∀ a ∈ q.ans, AnsOk n a
def VerOk (z : Int) : Prop := 1 ≤ z ∧ z ≤ 1048576
def HeadOk (p : Prot) : Prop := NameOk p.name ∧ VerOk p.ver ∧ 1 ≤ p.qs.length ∧ p.qs.length ≤ 64
def ProtOk (p : Prot) : Prop := HeadOk p ∧ ∀ q ∈ p.qs, QuesOk p.qs.length q
/-- the first k questions are valid. -/
def QsTo (p : Prot) (k : Nat) : Prop := ∀ q ∈ p.qs.take k, QuesOk p.qs.length q
/-- what Validate says. -/
inductive Says (p : Prot) : Int → Int → Prop where
  | bad (k : Nat) (q : Ques) (hq : p.qs[k]? = some q) (hk : QsTo p k) (hn : ¬ QuesOk p.qs.length q) : Says p k 1
  | head (hk : ∀ q ∈ p.qs, QuesOk p.qs.length q) (hh : ¬ HeadOk p) : Says p (-1) 1
  | fine (h : ProtOk p) : Says p (-1) 0
theorem QsTo.le {p : Prot} {k j : Nat} (h : QsTo p k) (hj : j < k) {q : Ques} (hq : p.qs[j]? = some q) : QuesOk p.qs.length q := h q (List.mem_of_getElem? (by rw [List.getElem?_take_of_lt hj]; exact hq))
theorem Says.uni {p : Prot} {a b c d : Int} (h : Says p a b) (k : Says p c d) : a = c ∧ b = d := by
  cases h with
  | bad i q hq hi hn =>
    cases k with
    | bad j r hr hj hm =>
      rcases Nat.lt_trichotomy i j with h | h | h
      · exact absurd (hj.le h hq) hn
      · subst h; exact ⟨rfl, rfl⟩
      · exact absurd (hi.le h hr) hm
    | head hk _ => exact absurd (hk q (List.mem_of_getElem? hq)) hn
    | fine hf => exact absurd (hf.2 q (List.mem_of_getElem? hq)) hn
  | head hk hh =>
    cases k with
    | bad j r hr hj hm => exact absurd (hk r (List.mem_of_getElem? hr)) hm
    | head _ _ => exact ⟨rfl, rfl⟩
    | fine hf => exact absurd hf.1 hh
  | fine hf =>
    cases k with
    | bad j r hr hj hm => exact absurd (hf.2 r (List.mem_of_getElem? hr)) hm
    | head _ hh => exact absurd hf.1 hh
    | fine _ => exact ⟨rfl, rfl⟩
theorem Says.ok {p : Prot} {a b : Int} (h : Says p a b) : b = 0 ↔ ProtOk p := by
  cases h with
  | bad i q hq hi hn => exact ⟨(fun e => by cases e), fun hf => absurd (hf.2 q (List.mem_of_getElem? hq)) hn⟩
  | head hk hh => exact ⟨(fun e => by cases e), fun hf => absurd hf.1 hh⟩
  | fine hf => exact ⟨fun _ => hf, fun _ => rfl⟩
theorem Says.two {p : Prot} {a b : Int} (h : Says p a b) : b = 0 ∨ b = 1 := by
  cases h
  · exact .inr rfl
  · exact .inr rfl
  · exact .inl rfl
theorem prot_five {p : Prot} : p.cells.toArray[0]? = some (.string p.name) ∧ p.cells.toArray[1]? = some (.int .i64 p.ver) ∧ p.cells.toArray[2]? = some (.slice p.qA p.qs.length p.qc) := ⟨rfl, rfl, rfl⟩
end Go.Proofs.YtbbklideciappaaGreatDoor
