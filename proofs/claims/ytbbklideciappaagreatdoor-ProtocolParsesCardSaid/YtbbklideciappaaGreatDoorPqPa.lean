/-
  What samaritanref12.Parse needs, in plain Lean: where the lines lie in the text; what a run leaves; stores beside the rows.
-/
import Derived.Test.YtbbklideciappaaGreatDoorPqMo
import Derived.Test.YtbbklideciappaaGreatDoorPqAA
namespace Go.Proofs.YtbbklideciappaaGreatDoor
open Go.RowKit Go.Maps

def frL (LF : List (List UInt8)) (j : Nat) : Nat := (joinL (LF.take j)).length
def restL (LF : List (List UInt8)) (tF : List UInt8) (j : Nat) : List UInt8 := (LF[j]?).getD tF
/-- j whole lines lie behind k, and k lies in the line under way. -/
def AtL (LF : List (List UInt8)) (tF : List UInt8) (j k : Nat) : Prop := j ≤ LF.length ∧ frL LF j ≤ k ∧ k ≤ frL LF j + (restL LF tF j).length
theorem at_start (LF : List (List UInt8)) (tF : List UInt8) : AtL LF tF 0 0 := ⟨Nat.zero_le _, Nat.le_refl _, Nat.zero_le _⟩
theorem fr_zero (LF : List (List UInt8)) : frL LF 0 = 0 := rfl
theorem drop_fr {LF : List (List UInt8)} {tF : List UInt8} {j : Nat} : (joinL LF ++ tF).drop (frL LF j) = joinL (LF.drop j) ++ tF := by
  have e : joinL LF = joinL (LF.take j) ++ joinL (LF.drop j) := by rw [← joinL_app, List.take_append_drop]
  rw [e, List.append_assoc]
  exact List.drop_left
theorem drop_line {LF : List (List UInt8)} {j : Nat} {x : List UInt8} (hx : LF[j]? = some x) : LF.drop j = x :: LF.drop (j + 1) := by
  obtain ⟨h1, h2⟩ := List.getElem?_eq_some_iff.1 hx
  rw [List.drop_eq_getElem_cons h1, h2]
theorem at_byte {LF : List (List UInt8)} {tF l : List UInt8} (hl : l = joinL LF ++ tF) (h10 : ∀ x ∈ LF, (10 : UInt8) ∉ x) (ht : (10 : UInt8) ∉ tF) {j k : Nat} (h : AtL LF tF j k) {b : UInt8} (hb : l[k]? = some b) :
    (b ≠ 10 ∧ AtL LF tF j (k + 1)) ∨ (b = 10 ∧ ∃ x, LF[j]? = some x ∧ (l.take k).drop (frL LF j) = x ∧ frL LF (j + 1) = k + 1 ∧ AtL LF tF (j + 1) (k + 1)) := by
  obtain ⟨hj, h1, h2⟩ := h
  have hd := drop_fr (LF := LF) (tF := tF) (j := j)
  rw [← hl] at hd
  have hb' : (l.drop (frL LF j))[k - frL LF j]? = some b := by
    rw [List.getElem?_drop, show frL LF j + (k - frL LF j) = k by omega]
    exact hb
  rw [hd] at hb'
  cases hx : LF[j]? with
  | none =>
    have e : LF.drop j = [] := List.drop_eq_nil_of_le (List.getElem?_eq_none_iff.1 hx)
    rw [e] at hb'
    have hb2 : tF[k - frL LF j]? = some b := hb'
    have hm := List.mem_of_getElem? hb2
    have hr : restL LF tF j = tF := by unfold restL; rw [hx]; rfl
    rw [hr] at h2
    have h3 := (List.getElem?_eq_some_iff.1 hb2).1
    exact .inl ⟨fun e => ht (e ▸ hm), hj, by omega, by rw [hr]; omega⟩
  | some x =>
    have hdr := drop_line hx
    have hx10 := h10 x (List.mem_of_getElem? hx)
    have hr : restL LF tF j = x := by unfold restL; rw [hx]; rfl
    rw [hr] at h2
    have hfr : frL LF (j + 1) = frL LF j + x.length + 1 := by
      unfold frL
      rw [take_snoc' hx, joinL_app, joinL_one, List.length_append, List.length_append]
      simp
      omega
    rw [hdr, joinL_cons, List.append_assoc] at hb'
    by_cases hk : k - frL LF j < x.length
    · rw [List.getElem?_append_left hk] at hb'
      have hm := List.mem_of_getElem? hb'
      exact .inl ⟨fun e => hx10 (e ▸ hm), hj, by omega, by rw [hr]; omega⟩
    · have hk2 : k - frL LF j = x.length := by omega
      rw [hk2] at hb'
      have hb3 : b = 10 := by
        simp at hb'
        exact hb'.symm
      refine .inr ⟨hb3, x, rfl, ?_, by omega, ?_, by omega, by omega⟩
      · rw [List.drop_take, hd, hdr, joinL_cons, hk2]
        simp
      · have := (List.getElem?_eq_some_iff.1 hx).1
        omega
theorem at_end {LF : List (List UInt8)} {tF l : List UInt8} (hl : l = joinL LF ++ tF) {j k : Nat} (h : AtL LF tF j k) (hk : l.length ≤ k) : j = LF.length ∧ frL LF j + tF.length = l.length := by
  obtain ⟨hj, h1, h2⟩ := h
  have hd := drop_fr (LF := LF) (tF := tF) (j := j)
  rw [← hl] at hd
  have hd2 := congrArg List.length hd
  rw [List.length_drop] at hd2
  cases hx : LF[j]? with
  | none =>
    have hle := List.getElem?_eq_none_iff.1 hx
    have e : LF.drop j = [] := List.drop_eq_nil_of_le hle
    have e2 : LF.take j = LF := List.take_of_length_le hle
    refine ⟨by omega, ?_⟩
    rw [hl, List.length_append]
    unfold frL
    rw [e2]
  | some x =>
    have hr : restL LF tF j = x := by unfold restL; rw [hx]; rfl
    rw [hr] at h2
    rw [drop_line hx, joinL_cons] at hd2
    simp at hd2
    omega
/-- what the first j lines have been made. -/
def Stt (LF : List (List UInt8)) (j : Nat) (p : Prot) : Prop := (j = 0 ∧ p = noProt) ∨ ∃ l r n v i, LF = l :: r ∧ IsHead l n v ∧ j = i + 1 ∧ Run ⟨n, v, []⟩ (r.take i) (conOf p)
theorem stt_head {LF : List (List UInt8)} {x : List UInt8} (hx : LF[0]? = some x) {n : ByteArray} {v : Int} (h : IsHead x n v) : Stt LF 1 ⟨n, v, none, [], 0⟩ := by
  cases LF with
  | nil => cases hx
  | cons l r =>
    have e : l = x := by simpa using hx
    subst e
    exact .inr ⟨l, r, n, v, 0, rfl, h, rfl, Run.nil _⟩
theorem stt_step {LF : List (List UInt8)} {j : Nat} {p p' : Prot} (h : Stt LF j p) (hj : 1 ≤ j) {x : List UInt8} (hx : LF[j]? = some x) (hs : StepL (conOf p) x (conOf p')) : Stt LF (j + 1) p' := by
  rcases h with ⟨e, _⟩ | ⟨l, r, n, v, i, rfl, hh, rfl, hr⟩
  · omega
  · refine .inr ⟨l, r, n, v, i + 1, rfl, hh, rfl, ?_⟩
    rw [List.getElem?_cons_succ] at hx
    rw [take_snoc' hx]
    exact .snoc hr hs
theorem ret_head {LF : List (List UInt8)} {tF x : List UInt8} (hx : LF[0]? = some x) (h : ∀ n v, ¬ IsHead x n v) : Parses LF tF empC 1 2 := by
  cases LF with
  | nil => cases hx
  | cons l r =>
    have e : l = x := by simpa using hx
    subst e
    exact .head l r rfl h
theorem ret_line {LF : List (List UInt8)} {tF : List UInt8} {j : Nat} {p : Prot} (h : Stt LF j p) (hj : 1 ≤ j) {x : List UInt8} (hx : LF[j]? = some x) (hs : ∀ d, ¬ StepL (conOf p) x d) : Parses LF tF empC ((j : Int) + 1) 2 := by
  rcases h with ⟨e, _⟩ | ⟨l, r, n, v, i, rfl, hh, rfl, hr⟩
  · omega
  · rw [List.getElem?_cons_succ] at hx
    have h1 := Parses.line (L := l :: r) (t := tF) l r rfl n v hh i (conOf p) hr x hx hs
    have e : (((i + 1 : Nat) : Int) + 1) = (i : Int) + 2 := by omega
    rw [e]
    exact h1
theorem ret_end {LF : List (List UInt8)} {tF : List UInt8} {p : Prot} (h : Stt LF LF.length p) (ht : tF ≠ [] ∨ LF.length = 0) : Parses LF tF empC ((LF.length : Int) + 1) 2 := by
  rcases h with ⟨e, _⟩ | ⟨l, r, n, v, i, rfl, hh, hi, hr⟩
  · rw [e]
    exact .none (List.eq_nil_of_length_eq_zero e)
  · have hi2 : i = r.length := by simpa using hi.symm
    rw [hi2, List.take_length] at hr
    have h1 := Parses.tail (L := l :: r) (t := tF) l r rfl n v hh (conOf p) hr (by
      rcases ht with ht | ht
      · exact ht
      · simp at ht)
    have e : (((l :: r).length : Int) + 1) = (r.length : Int) + 2 := by simp; omega
    rw [e]
    exact h1
theorem ret_bad {LF : List (List UInt8)} {tF : List UInt8} {p : Prot} (h : Stt LF LF.length p) (hn : LF.length ≠ 0) (ht : tF = []) (hc : ¬ ConOk (conOf p)) : Parses LF tF empC 0 1 := by
  rcases h with ⟨e, _⟩ | ⟨l, r, n, v, i, rfl, hh, hi, hr⟩
  · exact absurd e hn
  · have hi2 : i = r.length := by simpa using hi.symm
    rw [hi2, List.take_length] at hr
    exact .bad l r rfl n v hh (conOf p) hr ht hc
theorem ret_fine {LF : List (List UInt8)} {tF : List UInt8} {p : Prot} (h : Stt LF LF.length p) (hn : LF.length ≠ 0) (ht : tF = []) (hc : ConOk (conOf p)) : Parses LF tF (conOf p) 0 0 := by
  rcases h with ⟨e, _⟩ | ⟨l, r, n, v, i, rfl, hh, hi, hr⟩
  · exact absurd e hn
  · have hi2 : i = r.length := by simpa using hi.symm
    rw [hi2, List.take_length] at hr
    exact .fine l r rfl n v hh (conOf p) hr ht hc
def OkQ (q : ByteArray × List Ans) : Prop := PhraseOk q.1 200 ∧ ∀ a ∈ q.2, OkA a
theorem run_ok {c d : Con} {L : List (List UInt8)} (h : Run c L d) (hc : ∀ q ∈ c.qs, OkQ q) : d.name = c.name ∧ d.ver = c.ver ∧ ∀ q ∈ d.qs, OkQ q := by
  induction h with
  | nil => exact ⟨rfl, rfl, hc⟩
  | snoc _ hs ih =>
    obtain ⟨h1, h2, h3⟩ := ih
    cases hs with
    | ques t hl ht =>
      refine ⟨h1, h2, fun q hq => ?_⟩
      rcases List.mem_append.1 hq with hq | hq
      · exact h3 q hq
      · rw [List.mem_singleton.1 hq]
        exact ⟨ht, fun a ha => by cases ha⟩
    | ans x a hl ha hn =>
      refine ⟨h1, h2, fun q hq => ?_⟩
      rcases List.mem_append.1 hq with hq | hq
      · exact h3 q (List.dropLast_subset _ hq)
      · rename_i dd _ _ _ _
        cases hg : dd.qs.getLast? with
        | none =>
          rw [hg] at hq
          cases hq
        | some z =>
          rw [hg] at hq
          rw [List.mem_singleton.1 hq]
          have hz := h3 z (List.mem_of_getLast? hg)
          refine ⟨hz.1, fun b hb => ?_⟩
          rcases List.mem_append.1 hb with hb | hb
          · exact hz.2 b hb
          · rw [List.mem_singleton.1 hb]
            exact ha.2
theorem stt_wf {LF : List (List UInt8)} {j : Nat} {p : Prot} (h : Stt LF j p) (hj : j ≠ 0) (hn : NilOk p) : ProtWf p := by
  rcases h with ⟨e, _⟩ | ⟨l, r, n, v, i, rfl, hh, hi, hr⟩
  · exact absurd e hj
  · obtain ⟨h1, h2, h3⟩ := run_ok hr (fun q hq => by cases hq)
    have h1 : p.name = n := h1
    have h2 : p.ver = v := h2
    refine ⟨by rw [h1]; have := hh.2.1.1.2; omega, by rw [h2]; have := hh.2.2.1; have := hh.2.2.2; omega, hn.2.1, fun q hq => ?_⟩
    have hq2 := h3 (conQ q) (List.mem_map_of_mem hq)
    refine ⟨by have := hq2.1.1.1.2; have e : (conQ q).1 = q.text := rfl; rw [e] at this; omega, hn.2.2 q hq, fun a ha => ?_⟩
    obtain ⟨a1, a2⟩ := hq2.2 a ha
    have a3 := a1.1.1.2
    rcases a2 with ⟨b1, b2, b3⟩ | ⟨b1, b2, b3⟩
    · have := b3.1.2
      exact ⟨by omega, by omega, by omega, by omega⟩
    · exact ⟨by omega, by omega, by omega, by omega⟩
theorem recs_set {α : Type} {cs : α → List Value} {W : World} {B F : Nat} {A : Option Addr} {xs : List α} (h : RecsAt cs W B A xs) (hf : ∀ b o, A = some ⟨b, o, none⟩ → F ≤ b) {b : Nat} (hb : b < F) (j : Nat) (u : Value) : RecsAt cs (W.setCell ⟨b, j, none⟩ u) B A xs := fun i v hi => by
  obtain ⟨c, o, e, hc, hv⟩ := h i v hi
  refine ⟨c, o, e, hc, ?_⟩
  have h1 := hf c _ e
  exact (World.cell?_setCell_other _ _ _ _ (by intro q; injection q with q _; omega)).trans hv
theorem prot_set {W : World} {B F : Nat} {p : Prot} (h : ProtAt W B p) (hf : Far F p) {b : Nat} (hb : b < F) (j : Nat) (u : Value) : ProtAt (W.setCell ⟨b, j, none⟩ u) B p :=
  ⟨recs_set h.row hf.1 hb j u, fun q hq => recs_set (h.ans q hq) (hf.2 q hq) hb j u⟩
theorem prot_set3 {W : World} {p : Prot} (h : ProtAt W W.heap.size p) {F : Nat} (hf : Far F p) {b : Nat} (hb : b < F) (u0 u1 u2 : Value) : ProtAt (((W.setCell ⟨b, 0, none⟩ u0).setCell ⟨b, 1, none⟩ u1).setCell ⟨b, 2, none⟩ u2) (((W.setCell ⟨b, 0, none⟩ u0).setCell ⟨b, 1, none⟩ u1).setCell ⟨b, 2, none⟩ u2).heap.size p := by
  have h1 := prot_set (prot_set (prot_set h hf hb 0 u0) hf hb 1 u1) hf hb 2 u2
  simpa using h1
theorem far_new {F : Nat} {n : ByteArray} {v : Int} : Far F ⟨n, v, none, [], 0⟩ := ⟨(fun _ _ e => by cases e), (fun q hq => by cases hq)⟩
theorem nil_new {n : ByteArray} {v : Int} : NilOk ⟨n, v, none, [], 0⟩ := ⟨⟨fun _ => rfl, (fun q hq => by cases hq)⟩, ⟨Nat.le_refl _, Nat.zero_le _⟩, (fun q hq => by cases hq)⟩
theorem cnt_new {n : ByteArray} {v : Int} {k : Nat} : CntLe ⟨n, v, none, [], 0⟩ k := ⟨Nat.zero_le _, (fun q hq => by cases hq)⟩
theorem at_new {W : World} {B : Nat} {n : ByteArray} {v : Int} : ProtAt W B ⟨n, v, none, [], 0⟩ := QuesAt.empty
theorem ext_mid (s : ByteArray) (a b : Nat) : (s.extract a b).data.toList = (s.data.toList.take b).drop a := by
  simp [List.drop_take]
end Go.Proofs.YtbbklideciappaaGreatDoor
