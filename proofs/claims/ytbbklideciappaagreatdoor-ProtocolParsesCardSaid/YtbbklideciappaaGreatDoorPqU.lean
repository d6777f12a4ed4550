/-
  protocol.parseLine.
-/
import Derived.Test.YtbbklideciappaaGreatDoorPqQ
import Derived.Deep.RegionHeld3
namespace Go.Proofs.YtbbklideciappaaGreatDoor
open Go.RowKit Go.Maps

theorem cut_pre (c : UInt8) (l : List UInt8) : (∃ r, l = c :: 32 :: r ∧ Lib.hasPrefix l [c, 32] = true ∧ Lib.trimPrefix l [c, 32] = r) ∨ (Lib.hasPrefix l [c, 32] = false ∧ Lib.trimPrefix l [c, 32] = l ∧ ∀ r, l ≠ c :: 32 :: r) := by
  cases h : Lib.hasPrefix l [c, 32] with
  | true =>
    unfold Lib.hasPrefix at h
    obtain ⟨t, ht⟩ := List.isPrefixOf_iff_prefix.1 h
    refine .inl ⟨t, ht.symm, rfl, ?_⟩
    unfold Lib.trimPrefix Lib.hasPrefix
    rw [if_pos h, ← ht]
    rfl
  | false =>
    refine .inr ⟨rfl, ?_, fun r e => ?_⟩
    · unfold Lib.trimPrefix
      rw [h]
      rfl
    · unfold Lib.hasPrefix at h
      rw [e] at h
      simp [List.isPrefixOf] at h
/-- at most k questions, at most k answers each. -/
def CntLe (p : Prot) (k : Nat) : Prop := p.qs.length ≤ k ∧ ∀ q ∈ p.qs, q.ans.length ≤ k
/-- what parseLine does to the protocol under way. -/
def RetLine (pb : Nat) (p : Prot) (k : Nat) (l : List UInt8) (W : World) (e : Ending) (w' : World) : Prop :=
  ∃ b p', e = .returned (.bool b) ∧ PSt pb p' w' ∧ Below pb W w' ∧ CntLe p' (k + 1) ∧ ((b = true ∧ StepL (conOf p) l (conOf p')) ∨ (b = false ∧ ∀ d, ¬ StepL (conOf p) l d))
theorem ques_info : (Tryz.prog.info? 43).map (fun i => (i.zero, i.size, i.bytes)) = some (some (.agg #[.string ⟨#[]⟩, .slice none 0 0]), 2, 40) := by kernel_rfl
theorem answ_info : (Tryz.prog.info? 45).map (fun i => (i.zero, i.size, i.bytes)) = some (some (.agg #[.string ⟨#[]⟩, .int .i64 0, .int .i64 0, .string ⟨#[]⟩]), 4, 48) := by kernel_rfl
theorem cellsQ_one (q : Ques) : ∀ u ∈ cellsQ q, u.oneCell' = true := by
  intro u hu
  simp only [cellsQ, List.mem_cons, List.mem_nil_iff, or_false] at hu
  rcases hu with rfl | rfl <;> rfl
theorem cellsA_one (a : Ans) : ∀ u ∈ cellsA a, u.oneCell' = true := by
  intro u hu
  simp only [cellsA, List.mem_cons, List.mem_nil_iff, or_false] at hu
  rcases hu with rfl | rfl | rfl | rfl <;> rfl
theorem conOf_q (p : Prot) (t : ByteArray) (A : Option Addr) (c : Nat) : conOf { p with qA := A, qc := c, qs := p.qs ++ [⟨t, none, [], 0⟩] } = addQ (conOf p) t := by
  unfold conOf addQ
  simp [conQ]
set_option maxRecDepth 100000 in
set_option maxHeartbeats 4000000 in
theorem line_ques (pb : Nat) (p : Prot) (k : Nat) (W : World) (h : PSt pb p W) (hc : CntLe p k) (hk : k ≤ 1000000000) (s : ByteArray) (r : List UInt8) (hs : s.data.toList = 63 :: 32 :: r) :
    Calls Tryz.prog 30 #[.pointer (some ⟨pb, 0, none⟩), .string s] W (RetLine pb p k s.data.toList W) := by
  have HCP := Lib.hid (fun X => Tryz.strings_CutPrefix s ⟨#[63, 32]⟩ X)
  have h1 : Lib.hasPrefix s.data.toList (⟨#[63, 32]⟩ : ByteArray).data.toList = true ∧ Lib.trimPrefix s.data.toList (⟨#[63, 32]⟩ : ByteArray).data.toList = r := by
    show Lib.hasPrefix s.data.toList [63, 32] = true ∧ Lib.trimPrefix s.data.toList [63, 32] = r
    rcases cut_pre 63 s.data.toList with ⟨r', e, e1, e2⟩ | ⟨_, _, e3⟩
    · rw [hs] at e
      injection e with _ e
      injection e with _ e
      exact ⟨e1, e2.trans e.symm⟩
    · exact absurd hs (e3 r)
  rw [h1.1, h1.2] at HCP
  obtain ⟨T, hT⟩ : ∃ T : ByteArray, T = ⟨r.toArray⟩ := ⟨_, rfl⟩
  rw [← hT] at HCP
  have HTL := Lib.hid (show s.data.toList = lQues T by rw [hs, hT]; rfl)
  have h2 := (h.cell (j := 2) (u := .slice p.qA p.qs.length p.qc) rfl).1
  have HH := Lib.hid (And.intro h (And.intro hc hk))
  have HLQ := Lib.hid (show p.qs.length + 1 ≤ 549755813888 by have := hc.1; omega)
  have HPH := Lib.hid (fun X => isPhrase_any T 200 (by omega) 200 rfl X)
  obtain ⟨b, hb⟩ : ∃ b, tb (PhraseOk T 200) = b := ⟨_, rfl⟩
  rw [hb] at HPH
  have HTB := Lib.hid hb
  clear hb h hc hk h1 hs hT
  go_enter Tryz.func30, Tryz.ntmps30
  go_wp2_with fail
  refine (HCP.out _).mono ?_
  rintro e w' ⟨rfl, rfl⟩
  go_wp2_with (at_builtin; refine wpList_append_rec (cs := cellsQ) (s := 2) _ rfl _ _ 22 rfl (pb + 1) 43 Tryz.underlying22 ques_info rfl (by decide) (by omega) cellsQ_len _ p.qs w' (⟨T, none, [], 0⟩ : Ques) (cellsQ_one _) _ rfl rfl rfl HH.out.1.qs _ rfl rfl HLQ.out HH.out.1.lt ?_; intro v3 w3 hown3 hg; obtain ⟨A3, c3, rfl, _⟩ := hown3.sl; obtain ⟨g1, g2, g3, g4⟩ := HH.out.1.put_q hown3 hg)
  have hln : (p.qs ++ [(⟨T, none, [], 0⟩ : Ques)]).length = p.qs.length + 1 := by simp
  rw [hln] at g3 g4
  clear hln
  have HP := Lib.hid (And.intro g3 g4)
  have HL := Lib.hid (show CntLe { p with qA := A3, qc := c3, qs := p.qs ++ [⟨T, none, [], 0⟩] } (k + 1) from ⟨by have := HH.out.2.1.1; simp; omega, fun q hq => by
    rcases List.mem_append.1 hq with hq | hq
    · have := HH.out.2.1.2 q hq; omega
    · rw [List.mem_singleton.1 hq]; simp⟩)
  clear hown3 hg g3 g4
  go_wp2_with fail
  refine (HPH.out _).mono ?_
  rintro e w' ⟨rfl, rfl⟩
  go_wp2_with fail
  go_ret
  refine ⟨b, _, rfl, HP.out.1, HP.out.2, HL.out, ?_⟩
  cases b with
  | true =>
    refine .inl ⟨rfl, ?_⟩
    rw [conOf_q]
    exact .ques T HTL.out (of_tb HTB.out)
  | false =>
    refine .inr ⟨rfl, fun d hd => ?_⟩
    have hp := of_tb_f HTB.out
    rw [HTL.out] at hd
    cases hd with
    | ques t hl ht =>
      unfold lQues at hl
      injection hl with _ hl
      injection hl with _ hl
      rw [toList_inj hl] at hp
      exact hp ht
    | ans x a hl _ _ =>
      unfold lQues at hl
      injection hl with hl _
      cases hl
end Go.Proofs.YtbbklideciappaaGreatDoor
