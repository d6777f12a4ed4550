/-
  samaritanref02.Parse, plain: what a round of its loop reads.
-/
import Derived.Test.YtalfjcamjdmdjaaDoorRefNo
import Derived.Test.YtalfjcamjdmdjaaDoorRefO
import Derived.Test.YtalfjcamjdmdjaaDoorSameS
namespace Go.Proofs.YtalfjcamjdmdjaaDoor
open Go.RowKit

theorem intl_ext : ∀ {l m : List Int}, UpI l → UpI m → (∀ x, x ∈ l ↔ x ∈ m) → l = m
  | [], [], _, _, _ => rfl
  | [], b :: m, _, _, h => absurd ((h b).2 List.mem_cons_self) (by simp)
  | a :: l, [], _, _, h => absurd ((h a).1 List.mem_cons_self) (by simp)
  | a :: l, b :: m, hl, hm, h => by
    obtain ⟨hl1, hl2⟩ := List.pairwise_cons.1 hl
    obtain ⟨hm1, hm2⟩ := List.pairwise_cons.1 hm
    have hab : a = b := by
      have h1 := (h a).1 List.mem_cons_self
      have h2 := (h b).2 List.mem_cons_self
      rcases List.mem_cons.1 h1 with e | e
      · exact e
      · rcases List.mem_cons.1 h2 with e' | e'
        · exact e'.symm
        · have := hm1 a e
          have := hl1 b e'
          omega
    subst hab
    congr 1
    refine intl_ext hl2 hm2 fun x => ⟨fun hx => ?_, fun hx => ?_⟩
    · rcases List.mem_cons.1 ((h x).1 (List.mem_cons_of_mem _ hx)) with e | e
      · have := hl1 x hx
        omega
      · exact e
    · rcases List.mem_cons.1 ((h x).2 (List.mem_cons_of_mem _ hx)) with e | e
      · have := hm1 x hx
        omega
      · exact e
theorem nodesI_up (V : List Nat) : UpI (nodesI V) := (nodes_up V).map _ (fun a b h => by simpa using h)
theorem mem_nodesI {V : List Nat} {m : Int} : m ∈ nodesI V ↔ 0 ≤ m ∧ m.toNat ∈ nodesW V := by
  unfold nodesI
  rw [List.mem_map]
  constructor
  · rintro ⟨a, ha, rfl⟩
    exact ⟨by simp, by simpa using ha⟩
  · rintro ⟨h0, h⟩
    exact ⟨_, h, by simp; omega⟩
theorem refOf_nodes (zs : List Int) : refOf zs = nodesI (ofW zs) := by
  obtain ⟨h1, h2⟩ := refOf_ok zs
  refine intl_ext h1 (nodesI_up _) fun m => ?_
  rw [h2, mem_nodesI, mem_of]
  constructor
  · rintro ⟨a, b, c⟩
    exact ⟨a, by omega, by rwa [Int.toNat_of_nonneg a]⟩
  · rintro ⟨a, b, c⟩
    rw [Int.toNat_of_nonneg a] at c
    exact ⟨a, by omega, c⟩

def rangeI (a b : Nat) : List Int := (List.range' a (b + 1 - a)).map Int.ofNat
def rangesI (R : List (Nat × Nat)) : List Int := R.flatMap fun r => rangeI r.1 r.2
theorem mem_rangeI {a b : Nat} {m : Int} : m ∈ rangeI a b ↔ (a : Int) ≤ m ∧ m ≤ b := by
  unfold rangeI
  simp only [List.mem_map, List.mem_range'_1]
  constructor
  · rintro ⟨x, hx, rfl⟩
    simp only [Int.ofNat_eq_natCast]
    omega
  · rintro ⟨h1, h2⟩
    exact ⟨m.toNat, by omega, by simp; omega⟩
theorem rangeI_len (a b : Nat) (hb : b < 4096) : (rangeI a b).length ≤ 4096 := by
  unfold rangeI
  rw [List.length_map, List.length_range']
  omega
theorem ranges_snoc (R : List (Nat × Nat)) (r : Nat × Nat) : rangesI (R ++ [r]) = rangesI R ++ rangeI r.1 r.2 := by
  unfold rangesI
  rw [List.flatMap_append]
  simp
theorem of_ranges {R : List (Nat × Nat)} {p : Int} (h : goodR p R) : ofW (rangesI R) = runsW R := by
  obtain ⟨h1, h2⟩ := runsW_ok h
  refine words_ext (wds_of _) h1 (up_ext (nodes_up _) (nodes_up _) fun m => ?_)
  rw [mem_of, h2]
  unfold rangesI
  simp only [List.mem_flatMap, mem_rangeI]
  constructor
  · rintro ⟨_, r, hr, a, b⟩
    exact ⟨r, hr, by omega, by omega⟩
  · rintro ⟨r, hr, a, b⟩
    have := (goodR_ok h r hr).2
    exact ⟨by omega, r, hr, by omega, by omega⟩

theorem lead_dec {a : Nat} (ha : a < 4096) {r : List UInt8} (hr : ∀ c, r.head? = some c → ¬ isDig c) : Lead (Lib.decDigits a ++ r) (Lib.decDigits a).length := by
  refine ⟨by rw [List.length_append]; omega, dec_len4 ha, fun c hc => ?_, .inr fun c hc => ?_⟩
  · rw [List.take_left'  rfl] at hc
    exact dec_dig a c hc
  · rw [List.getElem?_append_right (Nat.le_refl _), Nat.sub_self] at hc
    exact hr c (by rw [List.head?_eq_getElem?]; exact hc)
theorem txt_cons (r : Nat × Nat) (R : List (Nat × Nat)) : txt (r :: R) = runT r.1 r.2 ++ (if R = [] then [] else 44 :: txt R) := by
  cases R with
  | nil => rw [txt_one, if_pos rfl, List.append_nil]
  | cons q R =>
    rw [if_neg (by simp)]
    exact join_two _ _ _
/-- what stands behind a run. -/
def tailR (R : List (Nat × Nat)) : List UInt8 := if R = [] then [] else 44 :: txt R
theorem tail_head {R : List (Nat × Nat)} {c : UInt8} (h : (tailR R).head? = some c) : c = 44 := by
  unfold tailR at h
  split at h
  · cases h
  · injection h with h; exact h.symm
theorem not_dig44 : ¬ isDig 44 := by unfold isDig; decide
theorem not_dig45 : ¬ isDig 45 := by unfold isDig; decide
/-- a round reads n, last; k digits at the end; at' where it stands then. -/
def PaStep (l : List UInt8) (at0 n last k at1 : Nat) : Prop := ∃ k1, Lead (l.drop at0) k1 ∧ n = valFrom 0 ((l.drop at0).take k1) ∧
  (((l.drop (at0 + k1)).head? = some 45 ∧ 0 < k1 ∧ Lead (l.drop (at0 + k1 + 1)) k ∧ last = valFrom 0 ((l.drop (at0 + k1 + 1)).take k) ∧ at1 = at0 + k1 + 1 + k) ∨
   (¬ (0 < k1 ∧ (l.drop (at0 + k1)).head? = some 45) ∧ last = n ∧ k = k1 ∧ at1 = at0 + k1))
theorem pa_good {l : List UInt8} {at0 n last k at1 : Nat} (h : PaStep l at0 n last k at1) {r : Nat × Nat} {R : List (Nat × Nat)} (hr : r.1 ≤ r.2 ∧ r.2 < 4096) (hl : l.drop at0 = txt (r :: R)) :
    n = r.1 ∧ last = r.2 ∧ 0 < k ∧ l.drop at1 = tailR R := by
  obtain ⟨a, b⟩ := r
  dsimp only at hr
  obtain ⟨k1, h1, hn, h2⟩ := h
  rw [txt_cons] at hl
  dsimp only at hl
  change l.drop at0 = runT a b ++ tailR R at hl
  have hsplit : ∃ rest, l.drop at0 = Lib.decDigits a ++ rest ∧ ((a ≠ b ∧ rest = 45 :: (Lib.decDigits b ++ tailR R)) ∨ (a = b ∧ rest = tailR R)) := by
    by_cases q : a = b
    · subst q
      rw [runT_one] at hl
      exact ⟨_, hl, .inr ⟨rfl, rfl⟩⟩
    · rw [runT_two q, List.append_assoc] at hl
      exact ⟨_, hl, .inl ⟨q, rfl⟩⟩
  obtain ⟨rest, hd, hrest⟩ := hsplit
  have hnd : ∀ c, rest.head? = some c → ¬ isDig c := by
    rcases hrest with ⟨_, rfl⟩ | ⟨_, rfl⟩
    · intro c hc
      injection hc with hc
      rw [← hc]
      exact not_dig45
    · intro c hc
      rw [tail_head hc]
      exact not_dig44
  have hla := lead_dec (a := a) (by omega) hnd
  rw [hd] at h1 hn
  obtain rfl := h1.one hla
  have hpos : 0 < (Lib.decDigits a).length := List.length_pos_iff.2 (dec_ne a)
  have hdr : l.drop (at0 + (Lib.decDigits a).length) = rest := by rw [← List.drop_drop, hd, List.drop_left' rfl]
  rw [List.take_left' rfl, val_dec] at hn
  rw [hdr] at h2
  rcases hrest with ⟨q, hr0⟩ | ⟨q, hr0⟩
  · rcases h2 with ⟨_, _, h5, h6, h7⟩ | ⟨h3, _⟩
    · have hdr2 : l.drop (at0 + (Lib.decDigits a).length + 1) = Lib.decDigits b ++ tailR R := by rw [← List.drop_drop, hdr, hr0]; rfl
      rw [hdr2] at h5 h6
      obtain rfl := h5.one (lead_dec hr.2 (fun c hc => by rw [tail_head hc]; exact not_dig44))
      rw [List.take_left' rfl, val_dec] at h6
      refine ⟨hn, h6, List.length_pos_iff.2 (dec_ne b), ?_⟩
      rw [h7, ← List.drop_drop, hdr2, List.drop_left' rfl]
    · exact absurd ⟨hpos, by rw [hr0]; rfl⟩ h3
  · rcases h2 with ⟨h3, _⟩ | ⟨_, h4, h5, h6⟩
    · rw [hr0] at h3
      have := tail_head h3
      cases this
    · subst h5
      exact ⟨hn, by rw [h4, hn, q], hpos, by rw [h6, hdr, hr0]⟩
/-- the state of the loop. -/
structure PaS (l : List UInt8) (at0 : Nat) (out : List Int) : Prop where
  le : at0 ≤ l.length
  len : out.length ≤ 4096 * at0
  emp : l = [] → out = []
  good : ∀ R, Reads l R → ∃ R1 R2, R = R1 ++ R2 ∧ l.drop at0 = txt R2 ∧ out = rangesI R1
theorem PaS.start (l : List UInt8) : PaS l 0 [] := ⟨Nat.zero_le _, Nat.zero_le _, fun _ => rfl, fun R h => ⟨[], R, rfl, h.2.2.symm, rfl⟩⟩
section
variable {l : List UInt8} {at0 : Nat} {out : List Int}
theorem PaS.split (h : PaS l at0 out) (hlt : at0 < l.length) {R : List (Nat × Nat)} (hR : Reads l R) : ∃ R1 r R2, R = R1 ++ r :: R2 ∧ l.drop at0 = txt (r :: R2) ∧ out = rangesI R1 ∧ r.1 ≤ r.2 ∧ r.2 < 4096 := by
  obtain ⟨R1, R2, e, hd, ho⟩ := h.good R hR
  cases R2 with
  | nil =>
    have : (l.drop at0).length = 0 := by rw [hd]; rfl
    rw [List.length_drop] at this
    omega
  | cons r R2 =>
    have hg := goodR_ok hR.2.1 r (by rw [e]; simp)
    exact ⟨R1, r, R2, e, hd, ho, hg⟩
theorem pa_le {n last k at1 : Nat} (h : PaStep l at0 n last k at1) (hk : k ≠ 0) (hlt : at0 < l.length) : at1 ≤ l.length ∧ at0 < at1 := by
  obtain ⟨k1, h1, hn, h2⟩ := h
  have l1 := h1.le
  rw [List.length_drop] at l1
  rcases h2 with ⟨h3, _, h5, _, h7⟩ | ⟨_, _, h5, h6⟩
  · have l2 := h5.le
    rw [List.length_drop] at l2
    have : at0 + k1 < l.length := by
      rcases Nat.lt_or_ge (at0 + k1) l.length with q | q
      · exact q
      · rw [List.drop_eq_nil_of_le q] at h3
        cases h3
    omega
  · omega
theorem PaS.reject (h : PaS l at0 out) (hlt : at0 < l.length) {n last k at1 : Nat} (hp : PaStep l at0 n last k at1) (hbad : k = 0 ∨ 4096 ≤ n ∨ 4096 ≤ last) : ∀ R, ¬ Reads l R := by
  intro R hR
  obtain ⟨R1, r, R2, e, hd, ho, hg⟩ := h.split hlt hR
  obtain ⟨a1, a2, a3, _⟩ := pa_good hp hg hd
  omega
theorem PaS.next (h : PaS l at0 out) (hlt : at0 < l.length) {n last k at1 : Nat} (hp : PaStep l at0 n last k at1) (hk : k ≠ 0) (hl4 : last < 4096) : PaS l (if at1 < l.length then at1 + 1 else at1) (out ++ rangeI n last) := by
  obtain ⟨q1, q2⟩ := pa_le hp hk hlt
  refine ⟨by split <;> omega, ?_, fun e => by rw [e] at hlt; simp at hlt, fun R hR => ?_⟩
  · rw [List.length_append]
    have h1 := h.len
    have h2 := rangeI_len n last hl4
    split <;> omega
  · obtain ⟨R1, r, R2, e, hd, ho, hg⟩ := h.split hlt hR
    obtain ⟨a1, a2, a3, a4⟩ := pa_good hp hg hd
    refine ⟨R1 ++ [r], R2, by rw [e]; simp, ?_, by rw [ranges_snoc, ho, a1, a2]⟩
    unfold tailR at a4
    split at a4
    · rename_i hR2
      have : at1 = l.length := by
        have := congrArg List.length a4
        rw [List.length_drop] at this
        simp at this
        omega
      rw [if_neg (by omega), hR2, a4]
      rfl
    · have hlt1 : at1 < l.length := by
        rcases Nat.lt_or_ge at1 l.length with q | q
        · exact q
        · rw [List.drop_eq_nil_of_le q] at a4
          cases a4
      rw [if_pos hlt1, ← List.drop_drop, a4]
      rfl
/-- what Parse makes of what it has gathered. -/
theorem PaS.fin (h : PaS l at0 out) (he : at0 = l.length) : (textL (nodesW (ofW out)) = l → (l = [] ∧ refOf out = []) ∨ ∃ R, Reads l R ∧ refOf out = nodesI (runsW R)) ∧ (textL (nodesW (ofW out)) ≠ l → l ≠ [] ∧ ∀ R, ¬ Reads l R) := by
  have h4 : ∀ n ∈ nodesW (ofW out), n < 4096 := fun n hn => (mem_of.1 hn).1
  constructor
  · intro ht
    by_cases hn : nodesW (ofW out) = []
    · refine .inl ⟨by rw [← ht, hn]; rfl, ?_⟩
      rw [refOf_nodes]
      unfold nodesI
      rw [hn]
      rfl
    · have := text_reads (nodes_up _) h4 hn
      rw [ht] at this
      refine .inr ⟨_, this, ?_⟩
      rw [refOf_nodes, runsW_nodes (wds_of _)]
  · intro ht
    refine ⟨fun e => ht ?_, fun R hR => ht ?_⟩
    · rw [h.emp e, e]
      have : nodesW (ofW []) = [] := nodes_zeros
      rw [this]
      rfl
    · obtain ⟨R1, R2, e, hd, ho⟩ := h.good R hR
      have hR2 : R2 = [] := by
        rw [he, List.drop_length] at hd
        rcases List.eq_nil_or_concat R2 with q | ⟨S, r, q⟩
        · exact q
        · exact absurd hd.symm (txt_ne (by rw [q]; simp))
      rw [hR2, List.append_nil] at e
      rw [ho, ← e, of_ranges hR.2.1]
      exact (reads_text hR).1
end
end Go.Proofs.YtalfjcamjdmdjaaDoor
