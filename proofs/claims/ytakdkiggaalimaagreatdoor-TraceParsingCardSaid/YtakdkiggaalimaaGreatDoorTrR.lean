/-
  Reading a line of a trace, word by word, in plain Lean: what a reader has made of the words so far; there is one reading at most.
-/
import Derived.Test.YtakdkiggaalimaaGreatDoorTrA
namespace Go.Proofs.YtakdkiggaalimaaGreatDoor
open Go.Lib

/-- one value was read: st are the words before (none: something was bad), st' those behind it. -/
def Rds {α : Type} (V : α → Prop) (wf : α → List Wd) (st st' : Option (List Wd)) (a : α) : Prop :=
  (∃ ws r, st = some ws ∧ st' = some r ∧ V a ∧ ws = wf a ++ r) ∨ (st' = none ∧ ∀ ws, st = some ws → ∀ b r, V b → ws ≠ wf b ++ r)
def Uniq {α : Type} (V : α → Prop) (wf : α → List Wd) : Prop := ∀ a b r r', V a → V b → wf a ++ r = wf b ++ r' → a = b ∧ r = r'
theorem Rds.bad {α : Type} {V : α → Prop} {wf : α → List Wd} {a : α} : Rds V wf none none a := .inr ⟨rfl, fun _ h => by cases h⟩
def numW (v : Int) : List Wd := [itoa v]
theorem uniq_num : Uniq Is64 numW := fun a b r r' ha hb h => by
  unfold numW at h
  injection h with h1 h2
  exact ⟨itoa_inj ha hb h1, h2⟩
theorem rds_num {w : Wd} {r : List Wd} {v : Int} (h : canon w = some v) : Rds Is64 numW (some (w :: r)) (some r) v := by
  obtain ⟨h1, h2⟩ := canon_some h
  exact .inl ⟨_, _, rfl, rfl, h1, by rw [h2]; rfl⟩
theorem rds_num_bad {w : Wd} {r : List Wd} {v : Int} (h : canon w = none) : Rds Is64 numW (some (w :: r)) none v := by
  refine .inr ⟨rfl, fun ws e b r' hb q => ?_⟩
  injection e with e
  rw [← e] at q
  injection q with q1 q2
  rw [q1, canon_itoa hb] at h
  cases h
theorem rds_num_none {v : Int} : Rds Is64 numW (some []) none v := by
  refine .inr ⟨rfl, fun ws e b r' hb q => ?_⟩
  injection e with e
  rw [← e] at q
  cases q
/-- k numbers were read. -/
def numsW (l : List Int) : List Wd := l.map itoa
def VN (k : Nat) (l : List Int) : Prop := l.length = k ∧ ∀ v ∈ l, Is64 v
def VL (l : List Int) : Prop := l.length ≤ 1099511627776 ∧ ∀ v ∈ l, Is64 v
theorem nums_inj : ∀ (a b : List Int), (∀ v ∈ a, Is64 v) → (∀ v ∈ b, Is64 v) → a.map itoa = b.map itoa → a = b
  | [], [], _, _, _ => rfl
  | [], _ :: _, _, _, h => by cases h
  | _ :: _, [], _, _, h => by cases h
  | x :: a, y :: b, ha, hb, h => by
    rw [List.map_cons, List.map_cons] at h
    injection h with h1 h2
    rw [itoa_inj (ha x (by simp)) (hb y (by simp)) h1, nums_inj a b (fun v hv => ha v (by simp [hv])) (fun v hv => hb v (by simp [hv])) h2]
theorem uniq_nums (k : Nat) : Uniq (VN k) numsW := fun a b r r' ha hb h => by
  unfold numsW at h
  obtain ⟨h1, h2⟩ := List.append_inj h (by rw [List.length_map, List.length_map, ha.1, hb.1])
  exact ⟨nums_inj a b ha.2 hb.2 h1, h2⟩
theorem uniq_list : Uniq VL listW := fun a b r r' ha hb h => by
  unfold listW at h
  rw [List.cons_append, List.cons_append] at h
  injection h with h1 h2
  have e := itoa_inj (by have := ha.1; unfold Is64; omega) (by have := hb.1; unfold Is64; omega) h1
  exact uniq_nums b.length a b r r' ⟨by omega, ha.2⟩ ⟨rfl, hb.2⟩ h2
theorem rds_nums_start (st : Option (List Wd)) : Rds (VN 0) numsW st st [] := by
  cases st with
  | none => exact .bad
  | some ws => exact .inl ⟨ws, ws, rfl, rfl, ⟨rfl, fun v h => by cases h⟩, rfl⟩
theorem split_snoc {b : List Int} {k : Nat} (h : b.length = k + 1) : ∃ c u, b = c ++ [u] ∧ c.length = k := by
  have hb : b ≠ [] := by intro e; rw [e] at h; simp at h
  refine ⟨b.dropLast, b.getLast hb, (List.dropLast_concat_getLast hb).symm, ?_⟩
  rw [List.length_dropLast]
  omega
theorem Rds.nums_snoc {k : Nat} {st st1 st2 : Option (List Wd)} {l : List Int} {v : Int} (h : Rds (VN k) numsW st st1 l) (h2 : Rds Is64 numW st1 st2 v) : Rds (VN (k + 1)) numsW st st2 (l ++ [v]) := by
  have bad : st2 = none → (∀ ws, st = some ws → ∀ b r, VN (k + 1) b → ws ≠ numsW b ++ r) → Rds (VN (k + 1)) numsW st st2 (l ++ [v]) := fun e q => .inr ⟨e, q⟩
  rcases h with ⟨ws, r, e1, e2, hv, e3⟩ | ⟨e1, hn⟩
  · rcases h2 with ⟨ws2, r2, f1, f2, hv2, f3⟩ | ⟨f1, hn2⟩
    · rw [e2] at f1
      injection f1 with f1
      refine .inl ⟨ws, r2, e1, f2, ⟨by rw [List.length_append, hv.1]; rfl, fun x hx => ?_⟩, ?_⟩
      · rcases List.mem_append.1 hx with hx | hx
        · exact hv.2 x hx
        · rw [List.mem_singleton.1 hx]
          exact hv2
      · rw [e3, f1, f3]
        simp [numsW, numW]
    · refine bad f1 (fun ws' e b r' hb q => ?_)
      rw [e1] at e
      injection e with e
      obtain ⟨c, u, rfl, hc⟩ := split_snoc hb.1
      have q2 : numsW l ++ r = numsW c ++ (numW u ++ r') := by
        rw [← e3, e, q]
        simp [numsW, numW]
      obtain ⟨_, q3⟩ := uniq_nums k l c r (numW u ++ r') hv ⟨hc, fun x hx => hb.2 x (by simp [hx])⟩ q2
      exact hn2 r e2 u r' (hb.2 u (by simp)) q3
  · have f1 : st2 = none := by
      rcases h2 with ⟨ws2, r2, f1, f2, _, _⟩ | ⟨f1, _⟩
      · rw [e1] at f1
        cases f1
      · exact f1
    refine bad f1 (fun ws' e b r' hb q => ?_)
    obtain ⟨c, u, rfl, hc⟩ := split_snoc hb.1
    refine hn ws' e c (numW u ++ r') ⟨hc, fun x hx => hb.2 x (by simp [hx])⟩ ?_
    rw [q]
    simp [numsW, numW]
/-- a list: its length, then as many numbers. -/
theorem Rds.list {st st1 st2 : Option (List Wd)} {k : Nat} {l : List Int} (hc : Rds Is64 numW st st1 (k : Int)) (hk : ∀ ws, st1 = some ws → k ≤ 1099511627776) (hl : Rds (VN k) numsW st1 st2 l) : Rds VL listW st st2 l := by
  rcases hc with ⟨ws, r, e1, e2, hv, e3⟩ | ⟨e1, hn⟩
  · have hk := hk r e2
    rcases hl with ⟨ws2, r2, f1, f2, hv2, f3⟩ | ⟨f1, hn2⟩
    · rw [e2] at f1
      injection f1 with f1
      refine .inl ⟨ws, r2, e1, f2, ⟨by rw [hv2.1]; exact hk, hv2.2⟩, ?_⟩
      rw [e3, f1, f3]
      unfold listW numW numsW
      rw [hv2.1]
      rfl
    · refine .inr ⟨f1, fun ws' e b r' hb q => ?_⟩
      rw [e1] at e
      injection e with e
      rw [← e, e3] at q
      unfold numW listW at q
      rw [List.cons_append, List.cons_append] at q
      injection q with q1 q2
      have e4 := itoa_inj hv (by have := hb.1; unfold Is64; omega) q1
      exact hn2 r e2 b r' ⟨by omega, hb.2⟩ q2
  · have f1 : st2 = none := by
      rcases hl with ⟨ws2, r2, f1, f2, _, _⟩ | ⟨f1, _⟩
      · rw [e1] at f1
        cases f1
      · exact f1
    refine .inr ⟨f1, fun ws' e b r' hb q => ?_⟩
    refine hn ws' e (b.length : Int) (b.map itoa ++ r') (by have := hb.1; unfold Is64; omega) ?_
    rw [q]
    rfl
/-- a length that is negative or greater than what is left. -/
theorem Rds.list_bad {st st1 : Option (List Wd)} {v : Int} {l : List Int} (hc : Rds Is64 numW st st1 v) (hk : ∀ ws, st1 = some ws → v < 0 ∨ (ws.length : Int) < v) : Rds VL listW st none l := by
  refine .inr ⟨rfl, fun ws' e b r' hb q => ?_⟩
  rcases hc with ⟨ws, r, e1, e2, hv, e3⟩ | ⟨e1, hn⟩
  · rw [e1] at e
    injection e with e
    rw [← e, e3] at q
    unfold numW listW at q
    rw [List.cons_append, List.cons_append] at q
    injection q with q1 q2
    have e4 := itoa_inj hv (by have := hb.1; unfold Is64; omega) q1
    have e5 : r = b.map itoa ++ r' := q2
    have := hk r e2
    rw [e5] at this
    simp at this
    omega
  · refine hn ws' e (b.length : Int) (b.map itoa ++ r') (by have := hb.1; unfold Is64; omega) ?_
    rw [q]
    rfl
/-- a source: its kind, then a list. -/
def VSr (s : SrcC) : Prop := Is64 s.kind ∧ VL s.nodes
theorem uniq_src : Uniq VSr srcW := fun a b r r' ha hb h => by
  unfold srcW at h
  rw [List.cons_append, List.cons_append] at h
  injection h with h1 h2
  obtain ⟨h3, h4⟩ := uniq_list _ _ _ _ ha.2 hb.2 h2
  obtain ⟨k, l⟩ := a
  obtain ⟨k', l'⟩ := b
  have h5 := itoa_inj ha.1 hb.1 h1
  have h3 : l = l' := h3
  have h5 : k = k' := h5
  rw [h3, h5]
  exact ⟨rfl, h4⟩
theorem Rds.seq {α β γ : Type} {V1 : α → Prop} {w1 : α → List Wd} {V2 : β → Prop} {w2 : β → List Wd} {V : γ → Prop} {w : γ → List Wd} (mk : α → β → γ) (p1 : γ → α) (p2 : γ → β)
    (hm1 : ∀ a b, p1 (mk a b) = a) (hm2 : ∀ a b, p2 (mk a b) = b) (hV : ∀ c, V c ↔ V1 (p1 c) ∧ V2 (p2 c)) (hw : ∀ c, w c = w1 (p1 c) ++ w2 (p2 c)) (hu : Uniq V1 w1)
    {st st1 st2 : Option (List Wd)} {a : α} {b : β} (h1 : Rds V1 w1 st st1 a) (h2 : Rds V2 w2 st1 st2 b) : Rds V w st st2 (mk a b) := by
  rcases h1 with ⟨ws, r, e1, e2, hv, e3⟩ | ⟨e1, hn⟩
  · rcases h2 with ⟨ws2, r2, f1, f2, hv2, f3⟩ | ⟨f1, hn2⟩
    · rw [e2] at f1
      injection f1 with f1
      refine .inl ⟨ws, r2, e1, f2, (hV _).2 ⟨by rw [hm1]; exact hv, by rw [hm2]; exact hv2⟩, ?_⟩
      rw [hw, hm1, hm2, e3, f1, f3, List.append_assoc]
    · refine .inr ⟨f1, fun ws' e c r' hc q => ?_⟩
      rw [e1] at e
      injection e with e
      obtain ⟨c1, c2⟩ := (hV c).1 hc
      rw [← e, e3, hw, List.append_assoc] at q
      obtain ⟨_, q2⟩ := hu _ _ _ _ hv c1 q
      exact hn2 r e2 _ r' c2 q2
  · have f1 : st2 = none := by
      rcases h2 with ⟨ws2, r2, f1, f2, _, _⟩ | ⟨f1, _⟩
      · rw [e1] at f1
        cases f1
      · exact f1
    refine .inr ⟨f1, fun ws' e c r' hc q => ?_⟩
    obtain ⟨c1, c2⟩ := (hV c).1 hc
    refine hn ws' e (p1 c) (w2 (p2 c) ++ r') c1 ?_
    rw [q, hw, List.append_assoc]
theorem Rds.src {st st1 st2 : Option (List Wd)} {k : Int} {l : List Int} (h1 : Rds Is64 numW st st1 k) (h2 : Rds VL listW st1 st2 l) : Rds VSr srcW st st2 ⟨k, l⟩ :=
  Rds.seq (fun k l => (⟨k, l⟩ : SrcC)) SrcC.kind SrcC.nodes (fun _ _ => rfl) (fun _ _ => rfl) (fun _ => Iff.rfl) (fun _ => rfl) uniq_num h1 h2
/-- k sources were read. -/
def srcsW (l : List SrcC) : List Wd := l.flatMap srcW
def VNS (k : Nat) (l : List SrcC) : Prop := l.length = k ∧ ∀ v ∈ l, VSr v
def VS (l : List SrcC) : Prop := l.length ≤ 1099511627776 ∧ ∀ v ∈ l, VSr v
def sourcesW (l : List SrcC) : List Wd := itoa l.length :: srcsW l
theorem uniq_srcs : ∀ k, Uniq (VNS k) srcsW
  | 0 => fun a b r r' ha hb h => by
    have ea := List.length_eq_zero_iff.1 ha.1
    have eb := List.length_eq_zero_iff.1 hb.1
    rw [ea, eb] at h ⊢
    exact ⟨rfl, h⟩
  | k + 1 => fun a b r r' ha hb h => by
    cases a with
    | nil => have := ha.1; simp at this
    | cons x a =>
      cases b with
      | nil => have := hb.1; simp at this
      | cons y b =>
        unfold srcsW at h
        rw [List.flatMap_cons, List.flatMap_cons, List.append_assoc, List.append_assoc] at h
        obtain ⟨h1, h2⟩ := uniq_src _ _ _ _ (ha.2 x (by simp)) (hb.2 y (by simp)) h
        obtain ⟨h3, h4⟩ := uniq_srcs k a b r r' ⟨by have := ha.1; simp at this; exact this, fun v hv => ha.2 v (by simp [hv])⟩ ⟨by have := hb.1; simp at this; exact this, fun v hv => hb.2 v (by simp [hv])⟩ h2
        rw [h1, h3]
        exact ⟨rfl, h4⟩
theorem uniq_sources : Uniq VS sourcesW := fun a b r r' ha hb h => by
  unfold sourcesW at h
  rw [List.cons_append, List.cons_append] at h
  injection h with h1 h2
  have e := itoa_inj (by have := ha.1; unfold Is64; omega) (by have := hb.1; unfold Is64; omega) h1
  exact uniq_srcs b.length a b r r' ⟨by omega, ha.2⟩ ⟨rfl, hb.2⟩ h2
theorem rds_srcs_start (st : Option (List Wd)) : Rds (VNS 0) srcsW st st [] := by
  cases st with
  | none => exact .bad
  | some ws => exact .inl ⟨ws, ws, rfl, rfl, ⟨rfl, fun v h => by cases h⟩, rfl⟩
theorem split_snocS {b : List SrcC} {k : Nat} (h : b.length = k + 1) : ∃ c u, b = c ++ [u] ∧ c.length = k := by
  have hb : b ≠ [] := by intro e; rw [e] at h; simp at h
  refine ⟨b.dropLast, b.getLast hb, (List.dropLast_concat_getLast hb).symm, ?_⟩
  rw [List.length_dropLast]
  omega
theorem Rds.srcs_snoc {k : Nat} {st st1 st2 : Option (List Wd)} {l : List SrcC} {v : SrcC} (h : Rds (VNS k) srcsW st st1 l) (h2 : Rds VSr srcW st1 st2 v) : Rds (VNS (k + 1)) srcsW st st2 (l ++ [v]) := by
  rcases h with ⟨ws, r, e1, e2, hv, e3⟩ | ⟨e1, hn⟩
  · rcases h2 with ⟨ws2, r2, f1, f2, hv2, f3⟩ | ⟨f1, hn2⟩
    · rw [e2] at f1
      injection f1 with f1
      refine .inl ⟨ws, r2, e1, f2, ⟨by rw [List.length_append, hv.1]; rfl, fun x hx => ?_⟩, ?_⟩
      · rcases List.mem_append.1 hx with hx | hx
        · exact hv.2 x hx
        · rw [List.mem_singleton.1 hx]
          exact hv2
      · rw [e3, f1, f3]
        simp [srcsW]
    · refine .inr ⟨f1, fun ws' e b r' hb q => ?_⟩
      rw [e1] at e
      injection e with e
      obtain ⟨c, u, rfl, hc⟩ := split_snocS hb.1
      have q2 : srcsW l ++ r = srcsW c ++ (srcW u ++ r') := by
        rw [← e3, e, q]
        simp [srcsW]
      obtain ⟨_, q3⟩ := uniq_srcs k l c r (srcW u ++ r') hv ⟨hc, fun x hx => hb.2 x (by simp [hx])⟩ q2
      exact hn2 r e2 u r' (hb.2 u (by simp)) q3
  · have f1 : st2 = none := by
      rcases h2 with ⟨ws2, r2, f1, f2, _, _⟩ | ⟨f1, _⟩
      · rw [e1] at f1
        cases f1
      · exact f1
    refine .inr ⟨f1, fun ws' e b r' hb q => ?_⟩
    obtain ⟨c, u, rfl, hc⟩ := split_snocS hb.1
    refine hn ws' e c (srcW u ++ r') ⟨hc, fun x hx => hb.2 x (by simp [hx])⟩ ?_
    rw [q]
    simp [srcsW]
theorem srcs_len (l : List SrcC) : l.length ≤ (srcsW l).length := by
  induction l with
  | nil => simp
  | cons x r ih =>
    unfold srcsW at ih ⊢
    rw [List.flatMap_cons, List.length_append, List.length_cons]
    have h1 : 1 ≤ (srcW x).length := by rw [srcW, List.length_cons]; omega
    omega
theorem Rds.sources {st st1 st2 : Option (List Wd)} {k : Nat} {l : List SrcC} (hc : Rds Is64 numW st st1 (k : Int)) (hk : ∀ ws, st1 = some ws → k ≤ 1099511627776) (hl : Rds (VNS k) srcsW st1 st2 l) : Rds VS sourcesW st st2 l := by
  rcases hc with ⟨ws, r, e1, e2, hv, e3⟩ | ⟨e1, hn⟩
  · have hk := hk r e2
    rcases hl with ⟨ws2, r2, f1, f2, hv2, f3⟩ | ⟨f1, hn2⟩
    · rw [e2] at f1
      injection f1 with f1
      refine .inl ⟨ws, r2, e1, f2, ⟨by rw [hv2.1]; exact hk, hv2.2⟩, ?_⟩
      rw [e3, f1, f3]
      unfold sourcesW numW
      rw [hv2.1]
      rfl
    · refine .inr ⟨f1, fun ws' e b r' hb q => ?_⟩
      rw [e1] at e
      injection e with e
      rw [← e, e3] at q
      unfold numW sourcesW at q
      rw [List.cons_append, List.cons_append] at q
      injection q with q1 q2
      have e4 := itoa_inj hv (by have := hb.1; unfold Is64; omega) q1
      exact hn2 r e2 b r' ⟨by omega, hb.2⟩ q2
  · have f1 : st2 = none := by
      rcases hl with ⟨ws2, r2, f1, f2, _, _⟩ | ⟨f1, _⟩
      · rw [e1] at f1
        cases f1
      · exact f1
    refine .inr ⟨f1, fun ws' e b r' hb q => ?_⟩
    refine hn ws' e (b.length : Int) (srcsW b ++ r') (by have := hb.1; unfold Is64; omega) ?_
    rw [q]
    rfl
theorem Rds.sources_bad {st st1 : Option (List Wd)} {v : Int} {l : List SrcC} (hc : Rds Is64 numW st st1 v) (hk : ∀ ws, st1 = some ws → v < 0 ∨ (ws.length : Int) < v) : Rds VS sourcesW st none l := by
  refine .inr ⟨rfl, fun ws' e b r' hb q => ?_⟩
  rcases hc with ⟨ws, r, e1, e2, hv, e3⟩ | ⟨e1, hn⟩
  · rw [e1] at e
    injection e with e
    rw [← e, e3] at q
    unfold numW sourcesW at q
    rw [List.cons_append, List.cons_append] at q
    injection q with q1 q2
    have e4 := itoa_inj hv (by have := hb.1; unfold Is64; omega) q1
    have e5 : r = srcsW b ++ r' := q2
    have h1 := hk r e2
    have h2 := srcs_len b
    rw [e5] at h1
    simp at h1
    omega
  · refine hn ws' e (b.length : Int) (srcsW b ++ r') (by have := hb.1; unfold Is64; omega) ?_
    rw [q]
    rfl
end Go.Proofs.YtakdkiggaalimaaGreatDoor
