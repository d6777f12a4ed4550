/-
  nodeset: a text as a list of runs, plain.
-/
import Derived.Test.YtalfjcamjdmdjaaDoorRunP
import Derived.Test.YtalfjcamjdmdjaaDoorSet
namespace Go.Proofs.YtalfjcamjdmdjaaDoor
section
theorem join_two (p q : List UInt8) (r : List (List UInt8)) : Lib.join (p :: q :: r) [44] = p ++ (([44] : List UInt8) ++ Lib.join (q :: r) [44]) := by
  rw [Lib.join_cons, Lib.join_cons]
  simp [Lib.joinTail]
theorem split_join : ∀ (ps : List (List UInt8)) (k : Nat), ps ≠ [] → (∀ p ∈ ps, (44 : UInt8) ∉ p) → ps.length ≤ k + 1 → Lib.splitK [44] 0 k (Lib.join ps [44]) = ps
  | [], _, h, _, _ => absurd rfl h
  | [p], k, _, hn, _ => by
    rw [Lib.join_one]
    cases k with
    | zero => rfl
    | succ k =>
      unfold Lib.splitK
      rw [index_miss (hn p (by simp))]
      rfl
  | p :: q :: r, k, _, hn, hk => by
    cases k with
    | zero => simp at hk
    | succ k =>
      rw [join_two]
      unfold Lib.splitK
      rw [index_at (hn p (by simp)), if_neg (by simp)]
      have ih := split_join (q :: r) k (by simp) (fun x hx => hn x (by simp at hx ⊢; right; exact hx)) (by simp at hk ⊢; omega)
      have e1 : List.drop (Int.toNat (p.length : Int) + ([44] : List UInt8).length) (p ++ (([44] : List UInt8) ++ Lib.join (q :: r) [44])) = Lib.join (q :: r) [44] := by simp
      rw [e1, ih]
      simp
theorem join_room : ∀ (ps : List (List UInt8)), ps.length ≤ (Lib.join ps [44]).length + 1
  | [] => by simp
  | [p] => by simp
  | p :: q :: r => by
    have ih := join_room (q :: r)
    rw [join_two]
    simp only [List.length_cons, List.length_append] at ih ⊢
    simp only [List.length_nil]
    omega
theorem splitK_ne (sep : List UInt8) (sv k : Nat) (s : List UInt8) : Lib.splitK sep sv k s ≠ [] := by
  cases k with
  | zero => simp [Lib.splitK]
  | succ k =>
    unfold Lib.splitK
    split <;> simp
theorem at_index {s : List UInt8} {i : Nat} (h : Lib.occAt s [44] i = true) : s.take i ++ (([44] : List UInt8) ++ s.drop (i + 1)) = s := by
  unfold Lib.occAt at h
  rw [List.isPrefixOf_iff_prefix] at h
  obtain ⟨t, ht⟩ := h
  have e : s.drop (i + 1) = t := by
    have : s.drop (i + 1) = (s.drop i).drop 1 := by rw [List.drop_drop]
    rw [this, ← ht]
    rfl
  rw [e, ht, List.take_append_drop]
theorem join_split : ∀ (k : Nat) (s : List UInt8), Lib.join (Lib.splitK [44] 0 k s) [44] = s
  | 0, s => Lib.join_one _ _
  | k + 1, s => by
    unfold Lib.splitK
    split
    · exact Lib.join_one _ _
    · rename_i h
      rcases Lib.index_spec s [44] with ⟨h1, _⟩ | ⟨i, h1, _, h3, _⟩
      · exact absurd (beq_iff_eq.2 h1) h
      have ih := join_split k (s.drop (i + 1))
      obtain ⟨q, r, hqr⟩ := List.exists_cons_of_ne_nil (splitK_ne [44] 0 k (s.drop (i + 1)))
      rw [h1]
      have e : Int.toNat (i : Int) + ([44] : List UInt8).length = i + 1 := by simp
      rw [e, hqr, join_two, ← hqr, ih]
      simp only [Int.toNat_natCast, Nat.add_zero]
      exact at_index h3
/-- a text cut at every blank. -/
def cutsFrom : List UInt8 → List UInt8 → List (List UInt8)
  | cur, [] => [cur]
  | cur, c :: r => if c = 44 then cur :: cutsFrom [] r else cutsFrom (cur ++ [c]) r
end
/-- runs in order, none touching the one ahead of it. -/
def goodR : Int → List (Nat × Nat) → Prop
  | _, [] => True
  | p, r :: R => p + 1 < (r.1 : Int) ∧ r.1 ≤ r.2 ∧ r.2 < 4096 ∧ goodR r.2 R
def lastR : Int → List (Nat × Nat) → Int
  | p, [] => p
  | _, r :: R => lastR r.2 R
theorem lastR_snoc : ∀ (R : List (Nat × Nat)) (p : Int) (r : Nat × Nat), lastR p (R ++ [r]) = r.2
  | [], _, _ => rfl
  | _ :: R, _, r => lastR_snoc R _ r
theorem goodR_snoc : ∀ (R : List (Nat × Nat)) (p : Int) (r : Nat × Nat), goodR p (R ++ [r]) ↔ goodR p R ∧ lastR p R + 1 < (r.1 : Int) ∧ r.1 ≤ r.2 ∧ r.2 < 4096
  | [], p, r => by simp [goodR, lastR]
  | q :: R, p, r => by
    rw [List.cons_append]
    unfold goodR lastR
    rw [goodR_snoc R q.2 r]
    constructor
    · rintro ⟨a, b, c, d, e⟩
      exact ⟨⟨a, b, c, d⟩, e⟩
    · rintro ⟨⟨a, b, c, d⟩, e⟩
      exact ⟨a, b, c, d, e⟩
theorem goodR_append : ∀ (R T : List (Nat × Nat)) (p : Int), goodR p (R ++ T) → goodR p R ∧ goodR (lastR p R) T
  | [], _, _, h => ⟨trivial, h⟩
  | r :: R, T, p, h => by
    obtain ⟨a, b, c, d⟩ := h
    obtain ⟨e, f⟩ := goodR_append R T r.2 d
    exact ⟨⟨a, b, c, e⟩, f⟩
theorem goodR_ok : ∀ {R : List (Nat × Nat)} {p : Int}, goodR p R → ∀ r ∈ R, r.1 ≤ r.2 ∧ r.2 < 4096
  | _ :: _, _, ⟨_, b, c, d⟩, r, hr => by
    rcases List.mem_cons.1 hr with rfl | hr
    · exact ⟨b, c⟩
    · exact goodR_ok d r hr
theorem runT_inj {a b c d : Nat} (h : runT a b = runT c d) : a = c ∧ b = d := by
  unfold runT at h
  split at h <;> split at h
  · have := dec_inj h
    omega
  · exact absurd (show (45 : UInt8) ∈ Lib.decDigits a by rw [h]; simp) (dash_dec a)
  · exact absurd (show (45 : UInt8) ∈ Lib.decDigits c by rw [← h]; simp) (dash_dec c)
  · have h1 := cut_hit (dash_dec a) (Lib.decDigits b)
    rw [h, cut_hit (dash_dec c)] at h1
    injection h1 with h2 h3
    injection h3 with h3 _
    exact ⟨(dec_inj h2).symm, (dec_inj h3).symm⟩
theorem comma_run (a b : Nat) : (44 : UInt8) ∉ runT a b := by
  have hd : ∀ n, (44 : UInt8) ∉ Lib.decDigits n := fun n h => by
    have := dec_dig n 44 h
    unfold isDig at this
    exact absurd this (by decide)
  unfold runT
  split
  · exact hd a
  · intro h
    rcases List.mem_append.1 h with h | h
    · exact hd a h
    · rcases List.mem_cons.1 h with h | h
      · exact absurd h (by decide)
      · exact hd b h
def textR (R : List (Nat × Nat)) : List (List UInt8) := R.map fun r => runT r.1 r.2
theorem pieces_of {R : List (Nat × Nat)} {l : List UInt8} (hR : R ≠ []) (h : Lib.join (textR R) [44] = l) : Lib.splitK [44] 0 l.length l = textR R := by
  have hne : textR R ≠ [] := by unfold textR; simpa using hR
  have hroom := join_room (textR R)
  rw [h] at hroom
  have := split_join (textR R) l.length hne (fun p hp => by
    obtain ⟨r, _, rfl⟩ := List.mem_map.1 hp
    exact comma_run _ _) hroom
  rwa [h] at this
/-- the words of runs. -/
def addTo (W : List Nat) (a : Nat) : Nat → List Nat
  | 0 => W
  | k + 1 => addW (addTo W a k) (a + k)
def runW (W : List Nat) (r : Nat × Nat) : List Nat := addTo W r.1 (r.2 + 1 - r.1)
def runsW (R : List (Nat × Nat)) : List Nat := R.foldl runW zeros
theorem runsW_snoc (R : List (Nat × Nat)) (r : Nat × Nat) : runsW (R ++ [r]) = runW (runsW R) r := by unfold runsW; rw [List.foldl_append]; rfl
theorem wds_addTo {W : List Nat} (h : Wds W) (a : Nat) : ∀ k, a + k ≤ 4096 → Wds (addTo W a k)
  | 0, _ => h
  | k + 1, hk => wds_add (wds_addTo h a k (by omega)) (by omega)
theorem has_addTo {W : List Nat} (h : Wds W) (a m : Nat) : ∀ k, a + k ≤ 4096 → (hasW (addTo W a k) m = true ↔ hasW W m = true ∨ (a ≤ m ∧ m < a + k))
  | 0, _ => by unfold addTo; constructor; exact .inl; rintro (h | h); exact h; omega
  | k + 1, hk => by
    have ih := has_addTo h a m k (by omega)
    unfold addTo
    rw [has_add (wds_addTo h a k (by omega)).len (by omega), Bool.or_eq_true, ih, decide_eq_true_eq]
    constructor
    · rintro ((h | h) | h)
      · exact .inl h
      · exact .inr (by omega)
      · exact .inr (by omega)
    · rintro (h | h)
      · exact .inl (.inl h)
      · by_cases q : m = a + k
        · exact .inr q
        · exact .inl (.inr (by omega))
theorem wds_runW {W : List Nat} (h : Wds W) {r : Nat × Nat} (hr : r.1 ≤ r.2 ∧ r.2 < 4096) : Wds (runW W r) := wds_addTo h _ _ (by omega)
theorem has_runW {W : List Nat} (h : Wds W) {r : Nat × Nat} (hr : r.1 ≤ r.2 ∧ r.2 < 4096) (m : Nat) : hasW (runW W r) m = true ↔ hasW W m = true ∨ (r.1 ≤ m ∧ m ≤ r.2) := by
  unfold runW
  rw [has_addTo h _ _ _ (by omega)]
  constructor <;> (rintro (h | h); exact .inl h; exact .inr (by omega))
theorem fold_runs : ∀ (R : List (Nat × Nat)) {W : List Nat}, Wds W → (∀ r ∈ R, r.1 ≤ r.2 ∧ r.2 < 4096) → Wds (R.foldl runW W) ∧ ∀ m, hasW (R.foldl runW W) m = true ↔ hasW W m = true ∨ ∃ r ∈ R, r.1 ≤ m ∧ m ≤ r.2
  | [], _, h, _ => ⟨h, fun m => by simp⟩
  | r :: R, W, h, hr => by
    obtain ⟨h1, h2⟩ := fold_runs R (wds_runW h (hr r (by simp))) (fun q hq => hr q (by simp [hq]))
    refine ⟨h1, fun m => ?_⟩
    rw [List.foldl_cons, h2 m, has_runW h (hr r (by simp))]
    constructor
    · rintro ((h | h) | ⟨q, hq, h⟩)
      · exact .inl h
      · exact .inr ⟨r, by simp, h⟩
      · exact .inr ⟨q, by simp [hq], h⟩
    · rintro (h | ⟨q, hq, h⟩)
      · exact .inl (.inl h)
      · rcases List.mem_cons.1 hq with rfl | hq
        · exact .inl (.inr h)
        · exact .inr ⟨q, hq, h⟩
theorem runsW_ok {R : List (Nat × Nat)} {p : Int} (h : goodR p R) : Wds (runsW R) ∧ ∀ m, m ∈ nodesW (runsW R) ↔ ∃ r ∈ R, r.1 ≤ m ∧ m ≤ r.2 := by
  obtain ⟨h1, h2⟩ := fold_runs R wds_zeros (goodR_ok h)
  refine ⟨h1, fun m => ?_⟩
  rw [mem_nodes]
  unfold runsW
  rw [h2 m, has_zeros]
  simp
end Go.Proofs.YtalfjcamjdmdjaaDoor
