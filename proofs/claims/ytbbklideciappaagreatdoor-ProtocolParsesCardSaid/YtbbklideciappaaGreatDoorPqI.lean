/-
  The example of the chapter, in plain Lean: what it is as a protocol, its text, what can follow its first question.
-/
import Derived.Test.YtbbklideciappaaGreatDoorPqD
import Derived.Test.YtbbklideciappaaGreatDoorPqE
namespace Go.Proofs.YtbbklideciappaaGreatDoor
open Go.RowKit

def exA : Ans := ⟨⟨#[110, 111]⟩, -1, 1, ⟨#[97, 114, 114, 101, 115, 116]⟩⟩
def exB : Ans := ⟨⟨#[121, 101, 115]⟩, 1, 0, ⟨#[]⟩⟩
def exC : Ans := ⟨⟨#[104, 111, 109, 101]⟩, -1, 3, ⟨#[102, 97, 108, 108]⟩⟩
def exP : Prot := ⟨⟨#[109, 97, 105, 110]⟩, 1, none, [⟨⟨#[68, 111, 101, 115, 32, 97, 110, 121, 98, 111, 100, 121, 32, 98, 114, 101, 97, 116, 104, 101, 63]⟩, none, [exA, exB], 0⟩, ⟨⟨#[87, 104, 101, 114, 101, 63]⟩, none, [exC], 0⟩], 0⟩
def exT : List UInt8 := [112, 114, 111, 116, 111, 99, 111, 108, 32, 109, 97, 105, 110, 32, 49, 10, 63, 32, 68, 111, 101, 115, 32, 97, 110, 121, 98, 111, 100, 121, 32, 98, 114, 101, 97, 116, 104, 101, 63, 10, 45, 32, 110, 111, 32, 61, 32, 49, 32, 97, 114, 114, 101, 115, 116, 10, 45, 32, 121, 101, 115, 32, 62, 32, 49, 10, 63, 32, 87, 104, 101, 114, 101, 63, 10, 45, 32, 104, 111, 109, 101, 32, 61, 32, 51, 32, 102, 97, 108, 108, 10]
instance decWithin (lo hi : Nat) (l : List UInt8) : Decidable (Within lo hi l) := by unfold Within; infer_instance
instance decPhrase (s : ByteArray) (n : Nat) : Decidable (PhraseOk s n) := by unfold PhraseOk; infer_instance
instance decCode (s : ByteArray) : Decidable (CodeOk s) := by unfold CodeOk; infer_instance
instance decByte (b : UInt8) : Decidable (NameByte b) := by unfold NameByte; infer_instance
instance decName (s : ByteArray) : Decidable (NameOk s) := by unfold NameOk; infer_instance
instance decAns (n : Int) (a : Ans) : Decidable (AnsOk n a) := by unfold AnsOk; infer_instance
instance decQues (n : Int) (q : Ques) : Decidable (QuesOk n q) := by unfold QuesOk; infer_instance
instance decVer (z : Int) : Decidable (VerOk z) := by unfold VerOk; infer_instance
instance decHead (p : Prot) : Decidable (HeadOk p) := by unfold HeadOk; infer_instance
instance decProt (p : Prot) : Decidable (ProtOk p) := by unfold ProtOk; infer_instance
theorem ex_ok : ProtOk exP := by decide
theorem ex_dec1 : dec 1 = [49] := by unfold dec; rw [show (1 : Int).toNat = 1 from rfl, dec_small (by omega)]; rfl
theorem ex_dec3 : dec 3 = [51] := by unfold dec; rw [show (3 : Int).toNat = 3 from rfl, dec_small (by omega)]; rfl
theorem ex_text : textP exP = exT := by
  have hA : lAns exA = [45, 32, 110, 111, 32, 61, 32, 49, 32, 97, 114, 114, 101, 115, 116] := by unfold lAns bodyA tailA; rw [if_neg (by decide), show exA.urg = 1 from rfl, ex_dec1]; rfl
  have hB : lAns exB = [45, 32, 121, 101, 115, 32, 62, 32, 49] := by unfold lAns bodyA tailA; rw [if_pos (by decide), show exB.next = 1 from rfl, ex_dec1]; rfl
  have hC : lAns exC = [45, 32, 104, 111, 109, 101, 32, 61, 32, 51, 32, 102, 97, 108, 108] := by unfold lAns bodyA tailA; rw [if_neg (by decide), show exC.urg = 3 from rfl, ex_dec3]; rfl
  have hH : lHead exP.name exP.ver = [112, 114, 111, 116, 111, 99, 111, 108, 32, 109, 97, 105, 110, 32, 49] := by unfold lHead; rw [show exP.ver = 1 from rfl, ex_dec1]; rfl
  have hL : linesP exP = [lHead exP.name exP.ver, lQues ⟨#[68, 111, 101, 115, 32, 97, 110, 121, 98, 111, 100, 121, 32, 98, 114, 101, 97, 116, 104, 101, 63]⟩, lAns exA, lAns exB, lQues ⟨#[87, 104, 101, 114, 101, 63]⟩, lAns exC] := rfl
  unfold textP
  rw [hL, hA, hB, hC, hH]
  rfl
theorem ex_parses {c : Con} {a b : Int} {t : List UInt8} (h : Parses (linesP exP) t c a b) (ht : t = []) : c = conOf exP ∧ a = 0 ∧ b = 0 := by
  subst ht
  exact h.uni (parses_text ex_ok)
/-- what is known of the questions of the example, wherever they lie. -/
theorem ex_qs {p : Prot} (h : conOf p = conOf exP) : ∃ q0 q1, p.qs = [q0, q1] ∧ q0.ans = [exA, exB] := by
  have h1 : p.qs.map conQ = exP.qs.map conQ := congrArg Con.qs h
  have hl := congrArg List.length h1
  simp only [List.length_map] at hl
  obtain ⟨nm, ver, qA, qs, qc⟩ := p
  match qs, h1, hl with
  | [q0, q1], h1, _ =>
    refine ⟨q0, q1, rfl, ?_⟩
    have h2 : conQ q0 = _ := (List.cons.inj h1).1
    exact congrArg Prod.snd h2
theorem ex_next {p : Prot} (h : conOf p = conOf exP) {L : List Int} (hn : NextAt p 0 L) : L = [1] := by
  obtain ⟨q0, q1, hq, ha⟩ := ex_qs h
  refine hn.uni (.inr ⟨q0, by rw [hq]; rfl, by omega, ?_⟩)
  refine ⟨List.pairwise_singleton _ _, fun z => ?_⟩
  rw [ha]
  exact Iff.rfl
end Go.Proofs.YtbbklideciappaaGreatDoor
