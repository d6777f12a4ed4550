/-
  Plain: assignments of rows to columns, which is better, and that the solver's is the best. No program in sight.
  Plain: the order of assignments is an order; exhaustive search finds the best (samaritanref36.all). No program in sight.
  Plain: lists under way in assignment.square: the square of a cost matrix, the two loops over the columns. No program in sight.
-/
import Derived.Test.YtimijjhdgihobaaGreatDoorMqc
namespace Go.Proofs.YtimijjhdgihobaaGreatDoor
section
/-- an assignment of R rows to K columns at costs c; -1: the row has none. -/
structure Va (c : Nat → Nat → Int) (R K : Nat) (m : Nat → Int) : Prop where
  at_ : ∀ i, i < R → m i = -1 ∨ ∃ k : Nat, k < K ∧ m i = k ∧ c i k ≠ 4611686018427387904
  inj : ∀ i j, i < R → j < R → m i = m j → m i ≠ -1 → i = j
/-- how many rows have columns. -/
def cnA (m : Nat → Int) (R : Nat) : Int := sumTo (fun i => if m i = -1 then 0 else 1) R
/-- what they cost. -/
def smA (c : Nat → Nat → Int) (m : Nat → Int) (R : Nat) : Int := sumTo (fun i => if m i = -1 then 0 else c i (m i).toNat) R
/-- a comes ahead of b. -/
def ahA (a b : Nat → Int) (R : Nat) : Prop := ∃ i, i < R ∧ (∀ k, k < i → a k = b k) ∧ a i ≠ b i ∧ a i ≠ -1 ∧ (b i = -1 ∨ a i < b i)
/-- a is better than b. -/
def btA (c : Nat → Nat → Int) (a b : Nat → Int) (R : Nat) : Prop := cnA b R < cnA a R ∨ (cnA a R = cnA b R ∧ (smA c a R < smA c b R ∨ (smA c a R = smA c b R ∧ ahA a b R)))
/-- the best assignment. -/
structure Bst (c : Nat → Nat → Int) (R K : Nat) (m : Nat → Int) : Prop where
  va : Va c R K m
  best : ∀ x, Va c R K x → ¬ btA c x m R
theorem Va.ge {c : Nat → Nat → Int} {R K : Nat} {m : Nat → Int} (h : Va c R K m) {i : Nat} (hi : i < R) : -1 ≤ m i := by
  rcases h.at_ i hi with e | ⟨k, _, e, _⟩ <;> omega
theorem least_diff {a b : Nat → Int} : ∀ {R : Nat}, (∀ i, i < R → a i = b i) ∨ ∃ i, i < R ∧ (∀ k, k < i → a k = b k) ∧ a i ≠ b i
  | 0 => .inl fun i hi => by omega
  | R + 1 => by
    rcases least_diff (a := a) (b := b) (R := R) with h | ⟨i, h1, h2, h3⟩
    · by_cases e : a R = b R
      · left
        intro i hi
        by_cases e2 : i = R
        · rw [e2]; exact e
        · exact h i (by omega)
      · exact .inr ⟨R, by omega, h, e⟩
    · exact .inr ⟨i, by omega, h2, h3⟩
/-- two assignments: they are one, or one is better. -/
theorem bt_three {c : Nat → Nat → Int} {R K : Nat} {a b : Nat → Int} (ha : Va c R K a) (hb : Va c R K b) : (∀ i, i < R → a i = b i) ∨ btA c a b R ∨ btA c b a R := by
  rcases least_diff (a := a) (b := b) (R := R) with h | ⟨i, h1, h2, h3⟩
  · exact .inl h
  · right
    rcases Int.lt_trichotomy (cnA a R) (cnA b R) with h4 | h4 | h4
    · exact .inr (.inl h4)
    · rcases Int.lt_trichotomy (smA c a R) (smA c b R) with h5 | h5 | h5
      · exact .inl (.inr ⟨h4, .inl h5⟩)
      · have ga := ha.ge h1
        have gb := hb.ge h1
        by_cases h6 : a i = -1
        · exact .inr (.inr ⟨h4.symm, .inr ⟨h5.symm, i, h1, fun k hk => (h2 k hk).symm, fun q => h3 q.symm, fun q => h3 (h6.trans q.symm), .inl h6⟩⟩)
        · by_cases h7 : b i = -1
          · exact .inl (.inr ⟨h4, .inr ⟨h5, i, h1, h2, h3, h6, .inl h7⟩⟩)
          · by_cases h8 : a i < b i
            · exact .inl (.inr ⟨h4, .inr ⟨h5, i, h1, h2, h3, h6, .inr h8⟩⟩)
            · exact .inr (.inr ⟨h4.symm, .inr ⟨h5.symm, i, h1, fun k hk => (h2 k hk).symm, fun q => h3 q.symm, h7, .inr (by omega)⟩⟩)
      · exact .inr (.inr ⟨h4.symm, .inl h5⟩)
    · exact .inl (.inl h4)
/-- there is one best assignment at most. -/
theorem Bst.one {c : Nat → Nat → Int} {R K : Nat} {a b : Nat → Int} (ha : Bst c R K a) (hb : Bst c R K b) {i : Nat} (hi : i < R) : a i = b i := by
  rcases bt_three ha.va hb.va with h | h | h
  · exact h i hi
  · exact absurd h (hb.best _ ha.va)
  · exact absurd h (ha.best _ hb.va)

/-- the column of each row in the square. -/
def colA (K : Nat) (m : Nat → Int) (i : Nat) : Nat := if m i = -1 then K + i else (m i).toNat
section
variable {C c : Nat → Nat → Int} {R K N : Nat} {m : Nat → Int}
theorem colA_inj (hc : Cs C R K N) (h : Va c R K m) : Inj (colA K m) R N := by
  have hv : ∀ i, i < R → (m i = -1 ∧ colA K m i = K + i) ∨ ∃ k : Nat, k < K ∧ m i = k ∧ colA K m i = k := by
    intro i hi
    rcases h.at_ i hi with e | ⟨k, h1, e, _⟩
    · exact .inl ⟨e, by simp [colA, e]⟩
    · refine .inr ⟨k, h1, e, ?_⟩
      unfold colA
      rw [if_neg (by omega), e]; rfl
  have hn := hc.n
  constructor
  · intro i hi
    rcases hv i hi with ⟨_, e⟩ | ⟨k, h1, _, e⟩ <;> omega
  · intro i j hi hj e
    rcases hv i hi with ⟨h1, e1⟩ | ⟨k, h1, e0, e1⟩ <;> rcases hv j hj with ⟨h2, e2⟩ | ⟨l, h2, e3, e2⟩
    · omega
    · omega
    · omega
    · exact h.inj i j hi hj (by omega) (by omega)
theorem colA_cost (hc : Cs C R K N) (hC : ∀ i j, i < R → j < K → C i j = c i j) (h : Va c R K m) {i : Nat} (hi : i < R) : C i (colA K m i) ≠ 4611686018427387904 ∧ C i (colA K m i) = if m i = -1 then 140737488355328 else c i (m i).toNat := by
  rcases h.at_ i hi with e | ⟨k, h1, e, h3⟩
  · have : colA K m i = K + i := by simp [colA, e]
    rw [this, hc.own i hi, if_pos e]
    exact ⟨by decide, rfl⟩
  · have : colA K m i = k := by
      unfold colA
      rw [if_neg (by omega), e]; rfl
    rw [this, hC i k hi h1, if_neg (by omega), e]
    exact ⟨h3, rfl⟩
theorem sum_cost (m : Nat → Int) (c : Nat → Nat → Int) : ∀ n : Nat, sumTo (fun i => if m i = -1 then 140737488355328 else c i (m i).toNat) n + 140737488355328 * cnA m n = 140737488355328 * (n : Int) + smA c m n
  | 0 => rfl
  | n + 1 => by
    have ih := sum_cost m c n
    have h1 : cnA m (n + 1) = cnA m n + (if m n = -1 then 0 else 1) := rfl
    have h2 : smA c m (n + 1) = smA c m n + (if m n = -1 then 0 else c n (m n).toNat) := rfl
    rw [sumTo, h1, h2]
    by_cases e : m n = -1
    · rw [if_pos e, if_pos e, if_pos e]; omega
    · rw [if_neg e, if_neg e, if_neg e]; omega
theorem colA_sum (hc : Cs C R K N) (hC : ∀ i j, i < R → j < K → C i j = c i j) (h : Va c R K m) : sumTo (fun i => C i (colA K m i)) R + 140737488355328 * cnA m R = 140737488355328 * (R : Int) + smA c m R := by
  rw [← sum_cost m c R, sumTo_congr (fun i hi => (colA_cost hc hC h hi).2)]
theorem small_sum (hb : ∀ i j, i < R → j < K → c i j = 4611686018427387904 ∨ (0 ≤ c i j ∧ c i j ≤ 1099511627776)) (h : Va c R K m) : ∀ n, n ≤ R → 0 ≤ smA c m n ∧ smA c m n ≤ 1099511627776 * (n : Int) ∧ 0 ≤ cnA m n ∧ cnA m n ≤ (n : Int)
  | 0, _ => by simp [smA, cnA, sumTo]
  | n + 1, hn => by
    have ih := small_sum hb h n (by omega)
    have h1 : cnA m (n + 1) = cnA m n + (if m n = -1 then 0 else 1) := rfl
    have h2 : smA c m (n + 1) = smA c m n + (if m n = -1 then 0 else c n (m n).toNat) := rfl
    rw [h1, h2]
    rcases h.at_ n (by omega) with e | ⟨k, h3, e, h4⟩
    · rw [if_pos e, if_pos e]; omega
    · rw [if_neg (by omega), if_neg (by omega), e]
      have h5 : ((k : Int)).toNat = k := rfl
      rw [h5]
      rcases hb n k (by omega) h3 with h6 | h6
      · exact absurd h6 h4
      · omega
end
/-- what the solver reads off is the best. -/
theorem solve_best {C c : Nat → Nat → Int} {R K N : Nat} {u v : Nat → Int} {p : Nat → Nat} {m ro : Nat → Int} (hc : Cs C R K N) (hC : ∀ i j, i < R → j < K → C i j = c i j)
    (hb : ∀ i j, i < R → j < K → c i j = 4611686018427387904 ∨ (0 ≤ c i j ∧ c i j ≤ 1099511627776)) (hm : Mt C R N N u v ro) (hp : Pf C N u v p) (hf : First C N u v p R)
    (hr : ∀ i, i < R → (∃ j, j < K ∧ p j = i ∧ m i = (j : Int)) ∨ (m i = -1 ∧ ∀ j, j < K → p j ≠ i)) : Bst c R K m := by
  have hn := hc.n
  have hva : Va c R K m := by
    constructor
    · intro i hi
      rcases hr i hi with ⟨j, h1, h2, h3⟩ | ⟨h1, _⟩
      · refine .inr ⟨j, h1, h3, ?_⟩
        have := (hp.tig j (by omega)).1
        rw [h2, hC i j hi h1] at this
        exact this
      · exact .inl h1
    · intro i j hi hj e he
      rcases hr i hi with ⟨k, h1, h2, h3⟩ | ⟨h1, _⟩
      · rcases hr j hj with ⟨l, h4, h5, h6⟩ | ⟨h4, _⟩
        · have : k = l := by omega
          subst this
          exact h2.symm.trans h5
        · exact absurd (e.trans h4) he
      · exact absurd h1 he
  -- the column of row i is p's
  have hcol : ∀ i, i < R → p (colA K m i) = i := by
    intro i hi
    rcases hr i hi with ⟨j, h1, h2, h3⟩ | ⟨h1, h2⟩
    · have : colA K m i = j := by
        unfold colA
        rw [if_neg (by omega), h3]; rfl
      rw [this]; exact h2
    · have e : colA K m i = K + i := by simp [colA, h1]
      rw [e]
      obtain ⟨j, hj, h3⟩ := hp.inj.onto (show i < N by omega)
      have hge : ¬ j < K := fun q => h2 j q h3
      have ht := (hp.tig j hj).1
      rw [h3] at ht
      have : j = K + i := by
        refine Classical.byContradiction fun hne => ?_
        have h5 := hc.oth i (j - K) hi (by omega) (by omega)
        rw [show K + (j - K) = j by omega] at h5
        exact ht h5
      rw [← this]; exact h3
  have hinj := colA_inj hc hva
  have hpr : Priced C 4611686018427387904 R N u v (colA K m) := by
    refine ⟨fun i hi j hj hf => hm.fair i j (by omega) hj hf, fun j hj => (hm.neg j hj).1, hinj, fun i hi => ?_, fun j hj hno => ?_⟩
    · have := (hp.tig _ (hinj.lt i hi)).2
      rw [hcol i hi] at this
      exact this
    · have hge : ¬ p j < R := fun q => hno (p j) q (hp.inj.inj _ _ (hinj.lt _ q) hj (hcol _ q))
      have h1 := (hp.tig j hj).2
      have h2 := hp.inj.lt j hj
      have h3 := hc.add (p j) j (by omega) h2 hj
      have h4 := hm.ux (p j) (by omega) h2
      omega
  refine ⟨hva, fun x hx hbt => ?_⟩
  have hxi := colA_inj hc hx
  have hxf := fun i hi => (colA_cost hc hC hx (i := i) hi).1
  have hle := hpr.least hxi hxf
  have e1 := colA_sum hc hC hva
  have e2 := colA_sum hc hC hx
  have s1 := small_sum hb hva R (Nat.le_refl _)
  have s2 := small_sum hb hx R (Nat.le_refl _)
  have h64 := hc.r64
  rcases hbt with h | ⟨h, h2 | ⟨h2, i, hi, hag, hne, hn1, hlt⟩⟩
  · omega
  · omega
  · obtain ⟨t1, t2⟩ := hpr.same hxi hxf (by omega)
    obtain ⟨s, hs1, hs2⟩ := hxi.full K (by omega)
    have hst : ∀ r, r < N → Tg C u v r (s r) := by
      intro r hr
      by_cases hrR : r < R
      · rw [hs1 r hrR]
        exact ⟨hxf r hrR, t1 r hrR⟩
      · have h3 := hc.add r (s r) (by omega) hr (hs2.lt r hr)
        have h4 := hm.ux r (by omega) hr
        have h5 := t2 (s r) (hs2.lt r hr) fun q hq e => by
          have := hs2.inj q r (by omega) hr ((hs1 q hq).trans e)
          omega
        refine ⟨?_, ?_⟩ <;> omega
    have hmin := hf i hi (colA K m i) (hinj.lt i hi) (hcol i hi) s hs2 hst (by
      intro j hj hlt
      obtain ⟨r, hr⟩ : ∃ r, r = p j := ⟨_, rfl⟩
      rw [← hr] at hlt ⊢
      have hrR : r < R := by omega
      have e3 : j = colA K m r := hp.inj.inj j _ hj (hinj.lt r hrR) (by rw [hcol r hrR, hr])
      rw [hs1 r hrR, e3]
      unfold colA
      rw [hag r hlt])
    rw [hs1 i hi] at hmin
    rcases hx.at_ i hi with e3 | ⟨k, h3, h4, h5⟩
    · exact hn1 e3
    · have e5 : colA K x i = k := by
        unfold colA
        rw [if_neg hn1, h4]; rfl
      have e6 : colA K m i = K + i ∨ ((colA K m i : Nat) : Int) = m i := by
        rcases hva.at_ i hi with e4 | ⟨l, h6, h7, h8⟩
        · exact .inl (by simp [colA, e4])
        · right
          unfold colA
          rw [if_neg (by omega), h7]; rfl
      rcases hlt with e4 | e4
      · have : colA K m i = K + i := by simp [colA, e4]
        omega
      · rcases e6 with e6 | e6
        · omega
        · omega
end
section
theorem ahA_trans {a b d : Nat → Int} {R : Nat} (h : ahA a b R) (h' : ahA b d R) : ahA a d R := by
  obtain ⟨i, hi, h1, h2, h3, h4⟩ := h
  obtain ⟨j, hj, k1, k2, k3, k4⟩ := h'
  rcases Nat.lt_trichotomy i j with hij | hij | hij
  · have e := k1 i hij
    exact ⟨i, hi, fun k hk => (h1 k hk).trans (k1 k (by omega)), by rw [← e]; exact h2, h3, by rw [← e]; exact h4⟩
  · subst hij
    refine ⟨i, hi, fun k hk => (h1 k hk).trans (k1 k hk), ?_, h3, ?_⟩
    · omega
    · omega
  · have e := h1 j hij
    exact ⟨j, hj, fun k hk => (h1 k (by omega)).trans (k1 k hk), by rw [e]; exact k2, by rw [e]; exact k3, by rw [e]; exact k4⟩
theorem btA_trans {c : Nat → Nat → Int} {a b d : Nat → Int} {R : Nat} (h : btA c a b R) (h' : btA c b d R) : btA c a d R := by
  rcases h with h | ⟨h1, h2⟩ <;> rcases h' with k | ⟨k1, k2⟩
  · exact .inl (by omega)
  · exact .inl (by omega)
  · exact .inl (by omega)
  · refine .inr ⟨by omega, ?_⟩
    rcases h2 with h2 | ⟨h2, h3⟩ <;> rcases k2 with k2 | ⟨k2, k3⟩
    · exact .inl (by omega)
    · exact .inl (by omega)
    · exact .inl (by omega)
    · exact .inr ⟨by omega, ahA_trans h3 k3⟩
theorem cnA_congr {a b : Nat → Int} {R : Nat} (h : ∀ i, i < R → a i = b i) : cnA a R = cnA b R := sumTo_congr fun i hi => by rw [h i hi]
theorem smA_congr {c : Nat → Nat → Int} {a b : Nat → Int} {R : Nat} (h : ∀ i, i < R → a i = b i) : smA c a R = smA c b R := sumTo_congr fun i hi => by rw [h i hi]
theorem btA_congr {c : Nat → Nat → Int} {a b a' b' : Nat → Int} {R : Nat} (h : ∀ i, i < R → a i = a' i) (h' : ∀ i, i < R → b i = b' i) (hb : btA c a b R) : btA c a' b' R := by
  unfold btA at hb ⊢
  rw [cnA_congr h, cnA_congr h', smA_congr h, smA_congr h'] at hb
  rcases hb with hb | ⟨h1, hb | ⟨h2, i, hi, h3, h4, h5, h6⟩⟩
  · exact .inl hb
  · exact .inr ⟨h1, .inl hb⟩
  · refine .inr ⟨h1, .inr ⟨h2, i, hi, fun k hk => ?_, ?_, ?_, ?_⟩⟩
    · rw [← h k (by omega), ← h' k (by omega)]; exact h3 k hk
    · rw [← h i hi, ← h' i hi]; exact h4
    · rw [← h i hi]; exact h5
    · rw [← h i hi, ← h' i hi]; exact h6
theorem Va.congr {c : Nat → Nat → Int} {R K : Nat} {a b : Nat → Int} (h : Va c R K a) (e : ∀ i, i < R → a i = b i) : Va c R K b :=
  ⟨fun i hi => by rw [← e i hi]; exact h.at_ i hi, fun i j hi hj => by rw [← e i hi, ← e j hj]; exact h.inj i j hi hj⟩
theorem btA_irr {c : Nat → Nat → Int} {a : Nat → Int} {R : Nat} (h : btA c a a R) : False := by
  rcases h with h | ⟨_, h | ⟨_, i, _, _, h, _⟩⟩
  · omega
  · omega
  · exact h rfl

/-- a list as a function. -/
def mF (m : List Int) (i : Nat) : Int := m[i]?.getD 0
/-- a matrix as a function. -/
def cF (cost : List (List Int)) (i j : Nat) : Int := (cost[i]?.getD [])[j]?.getD 0
theorem mF_app {m : List Int} {x : Int} : mF (m ++ [x]) m.length = x := by simp [mF]
theorem mF_get {m : List Int} {i : Nat} {x : Int} (h : m[i]? = some x) : mF m i = x := by simp [mF, h]
theorem mF_lt {m : List Int} {i : Nat} (h : i < m.length) : m[i]? = some (mF m i) := by simp [mF, h]
theorem mF_take {x m : List Int} (h : x.take m.length = m) {i : Nat} (hi : i < m.length) : mF x i = mF m i := by
  unfold mF
  rw [← h, List.getElem?_take]
  have : i < (x.take m.length).length := by rw [h]; exact hi
  rw [List.length_take] at this
  rw [if_pos hi]
theorem mF_ext {x y : List Int} (h : x.length = y.length) (e : ∀ i, i < x.length → mF x i = mF y i) : x = y := by
  refine List.ext_getElem? fun i => ?_
  by_cases hi : i < x.length
  · rw [mF_lt hi, mF_lt (by omega), e i hi]
  · rw [List.getElem?_eq_none (by omega), List.getElem?_eq_none (by omega)]
/-- a list has a prefix and one more. -/
theorem take_more {y m : List Int} {x : Int} (h : y.take m.length = m) (hl : m.length < y.length) (e : mF y m.length = x) : y.take (m ++ [x]).length = m ++ [x] := by
  rw [List.length_append, List.length_singleton, List.take_succ_eq_append_getElem hl, h]
  congr 1
  have := mF_get (List.getElem?_eq_getElem hl)
  rw [← this, e]
theorem take_less {y m : List Int} {x : Int} (h : y.take (m ++ [x]).length = m ++ [x]) : y.take m.length = m ∧ mF y m.length = x := by
  have h1 : mF y m.length = x := by
    rw [mF_take h (by simp)]
    exact mF_app
  refine ⟨?_, h1⟩
  have h2 := congrArg (List.take m.length) h
  rw [List.take_take] at h2
  simpa using h2

/-- the best assignment with a given prefix. -/
structure IsAll (c : Nat → Nat → Int) (R K : Nat) (pre x : List Int) : Prop where
  len : x.length = R
  hd : x.take pre.length = pre
  va : Va c R K (mF x)
  best : ∀ y : List Int, y.length = R → y.take pre.length = pre → Va c R K (mF y) → ¬ btA c (mF y) (mF x) R
/-- the best of those whose next row has no column, or one below j. -/
structure Alm (c : Nat → Nat → Int) (R K : Nat) (pre : List Int) (j : Nat) (x : List Int) : Prop where
  len : x.length = R
  hd : x.take pre.length = pre
  va : Va c R K (mF x)
  best : ∀ y : List Int, y.length = R → y.take pre.length = pre → Va c R K (mF y) → (mF y pre.length = -1 ∨ ∃ k : Nat, k < j ∧ mF y pre.length = k) → ¬ btA c (mF y) (mF x) R
section
variable {c : Nat → Nat → Int} {R K : Nat} {pre x best : List Int} {j : Nat}
theorem IsAll.full (hl : pre.length = R) (hv : Va c R K (mF pre)) : IsAll c R K pre pre := by
  refine ⟨hl, by rw [List.take_length], hv, fun y hy hp _ hb => ?_⟩
  rw [hl, ← hy, List.take_length] at hp
  rw [hp] at hb
  exact btA_irr hb
theorem Alm.start (h : IsAll c R K (pre ++ [-1]) x) (hl : pre.length < R) : Alm c R K pre 0 x := by
  obtain ⟨h1, _⟩ := take_less h.hd
  refine ⟨h.len, h1, h.va, fun y hy hp hv hk => ?_⟩
  rcases hk with e | ⟨k, hk, _⟩
  · exact h.best y hy (take_more hp (by omega) e) hv
  · omega
theorem Alm.skip (h : Alm c R K pre j best) (hno : ∀ y : List Int, y.length = R → y.take pre.length = pre → Va c R K (mF y) → mF y pre.length ≠ (j : Int)) : Alm c R K pre (j + 1) best := by
  refine ⟨h.len, h.hd, h.va, fun y hy hp hv hk => ?_⟩
  refine h.best y hy hp hv ?_
  rcases hk with e | ⟨k, hk, e⟩
  · exact .inl e
  · by_cases e2 : k = j
    · subst e2
      exact absurd e (hno y hy hp hv)
    · exact .inr ⟨k, by omega, e⟩
theorem Alm.take (h : Alm c R K pre j best) (hx : IsAll c R K (pre ++ [(j : Int)]) x) (hl : pre.length < R) (hb : btA c (mF x) (mF best) R) : Alm c R K pre (j + 1) x := by
  obtain ⟨h1, _⟩ := take_less hx.hd
  refine ⟨hx.len, h1, hx.va, fun y hy hp hv hk hyx => ?_⟩
  by_cases e2 : mF y pre.length = (j : Int)
  · exact hx.best y hy (take_more hp (by omega) e2) hv hyx
  · refine h.best y hy hp hv ?_ (btA_trans hyx hb)
    rcases hk with e | ⟨k, hk, e⟩
    · exact .inl e
    · exact .inr ⟨k, by omega, e⟩
theorem Alm.keep (h : Alm c R K pre j best) (hx : IsAll c R K (pre ++ [(j : Int)]) x) (hl : pre.length < R) (hb : ¬ btA c (mF x) (mF best) R) : Alm c R K pre (j + 1) best := by
  refine ⟨h.len, h.hd, h.va, fun y hy hp hv hk hyb => ?_⟩
  by_cases e2 : mF y pre.length = (j : Int)
  · have h1 := hx.best y hy (take_more hp (by omega) e2) hv
    rcases bt_three hx.va h.va with h2 | h2 | h2
    · exact h1 (btA_congr (fun _ _ => rfl) (fun i hi => (h2 i hi).symm) hyb)
    · exact hb h2
    · exact h1 (btA_trans hyb h2)
  · refine h.best y hy hp hv ?_ hyb
    rcases hk with e | ⟨k, hk, e⟩
    · exact .inl e
    · exact .inr ⟨k, by omega, e⟩
theorem Alm.done (h : Alm c R K pre K best) (hl : pre.length < R) : IsAll c R K pre best := by
  refine ⟨h.len, h.hd, h.va, fun y hy hp hv => h.best y hy hp hv ?_⟩
  rcases hv.at_ pre.length hl with e | ⟨k, hk, e, _⟩
  · exact .inl e
  · exact .inr ⟨k, hk, e⟩
theorem IsAll.bst (h : IsAll c R K [] x) : Bst c R K (mF x) := by
  refine ⟨h.va, fun y hy hb => ?_⟩
  have e : ∀ i, i < R → mF ((List.range R).map y) i = y i := by
    intro i hi
    exact mF_get (by rw [List.getElem?_map, List.getElem?_range hi]; rfl)
  refine h.best ((List.range R).map y) (by simp) (by simp) (hy.congr fun i hi => (e i hi).symm) (btA_congr (fun i hi => (e i hi).symm) (fun _ _ => rfl) hb)
end
/-- a prefix goes on. -/
theorem Va.more {c : Nat → Nat → Int} {k K : Nat} {m : List Int} {x : Int} (hk : m.length = k) (h : Va c k K (mF m)) (hx : x = -1 ∨ ∃ j : Nat, j < K ∧ x = j ∧ c k j ≠ 4611686018427387904) (hd : x = -1 ∨ ∀ y ∈ m, y ≠ x) : Va c (k + 1) K (mF (m ++ [x])) := by
  subst hk
  have hlt : ∀ i, i < m.length → mF (m ++ [x]) i = mF m i := fun i hi => by unfold mF; rw [List.getElem?_append_left hi]
  constructor
  · intro i hi
    by_cases e : i = m.length
    · rw [e, mF_app]; exact hx
    · rw [hlt i (by omega)]; exact h.at_ i (by omega)
  · intro i j hi hj
    by_cases e1 : i = m.length <;> by_cases e2 : j = m.length
    · intros; omega
    · rw [e1, mF_app, hlt j (by omega)]
      intro q1 q2
      rcases hd with hd | hd
      · exact absurd hd q2
      · exact absurd q1.symm (hd _ (List.mem_of_getElem? (mF_lt (show j < m.length by omega))))
    · rw [e2, mF_app, hlt i (by omega)]
      intro q1 q2
      rcases hd with hd | hd
      · exact absurd (q1.trans hd) q2
      · exact absurd q1 (hd _ (List.mem_of_getElem? (mF_lt (show i < m.length by omega))))
    · rw [hlt i (by omega), hlt j (by omega)]
      exact h.inj i j (by omega) (by omega)
/-- two best assignments are one. -/
theorem Bst.list {c : Nat → Nat → Int} {R K : Nat} {x y : List Int} (hx : Bst c R K (mF x)) (hy : Bst c R K (mF y)) (h1 : x.length = R) (h2 : y.length = R) : x = y :=
  mF_ext (by omega) fun i hi => hx.one hy (by omega)
end
section
theorem mF_set {L : List Int} {k : Nat} (h : k < L.length) (x : Int) : mF (L.set k x) = putF (mF L) k x := by
  funext j
  unfold mF
  by_cases e : j = k
  · subst e
    rw [putF_eq, List.getElem?_set_self h]
    rfl
  · rw [putF_ne _ e, List.getElem?_set_ne (fun q => e q.symm)]
def bF (L : List Bool) (j : Nat) : Bool := L[j]?.getD false
theorem bF_set {L : List Bool} {k : Nat} (h : k < L.length) (x : Bool) : bF (L.set k x) = putF (bF L) k x := by
  funext j
  unfold bF
  by_cases e : j = k
  · subst e
    rw [putF_eq, List.getElem?_set_self h]
    rfl
  · rw [putF_ne _ e, List.getElem?_set_ne (fun q => e q.symm)]
theorem bF_get {L : List Bool} {j : Nat} (h : j < L.length) : L[j]? = some (bF L j) := by simp [bF, h]
/-- how many columns are not used. -/
def left (L : List Bool) : Nat := L.countP (fun b => !b)
theorem left_set : ∀ {L : List Bool} {k : Nat}, L[k]? = some false → left (L.set k true) + 1 = left L
  | [], k, h => by simp at h
  | a :: L, 0, h => by
    simp only [List.getElem?_cons_zero, Option.some.injEq] at h
    subst h
    simp [left]
  | a :: L, k + 1, h => by
    have ih := left_set (L := L) (k := k) (by simpa using h)
    unfold left at ih ⊢
    rw [List.set_cons_succ, List.countP_cons, List.countP_cons, ← ih]
    omega

/-- a number that may stand in a cost matrix. -/
def isC (x : Int) : Prop := x = 4611686018427387904 ∨ (0 ≤ x ∧ x ≤ 1099511627776)
/-- row i of the square. -/
def sqRow (cost : List (List Int)) (R K i : Nat) : List Int := if i < R then (cost[i]?.getD []) ++ (List.replicate R 4611686018427387904).set i 140737488355328 else List.replicate (R + K) 0
def sqL (cost : List (List Int)) (R K : Nat) : List (List Int) := (List.range (R + K)).map (sqRow cost R K)
section
variable {cost : List (List Int)} {R K : Nat}
theorem row_len (hK : ∀ l ∈ cost, l.length = K) {i : Nat} (hi : i < cost.length) : (cost[i]?.getD []).length = K := by
  rw [List.getElem?_eq_getElem hi]
  exact hK _ (List.getElem_mem hi)
theorem sqRow_len (hR : cost.length = R) (hK : ∀ l ∈ cost, l.length = K) (i : Nat) : (sqRow cost R K i).length = R + K := by
  unfold sqRow
  split
  · rw [List.length_append, row_len hK (by omega)]
    simp
    omega
  · simp
theorem cF_sq {i j : Nat} (hi : i < R + K) : cF (sqL cost R K) i j = (sqRow cost R K i)[j]?.getD 0 := by
  unfold cF sqL
  rw [List.getElem?_map, List.getElem?_range hi]
  rfl
theorem sq_low (hR : cost.length = R) (hK : ∀ l ∈ cost, l.length = K) {i j : Nat} (hi : i < R) (hj : j < K) : cF (sqL cost R K) i j = cF cost i j := by
  rw [cF_sq (by omega), sqRow, if_pos hi, List.getElem?_append_left (by rw [row_len hK (by omega)]; exact hj)]
  rfl
theorem sq_high (hR : cost.length = R) (hK : ∀ l ∈ cost, l.length = K) {i k : Nat} (hi : i < R) (hk : k < R) : cF (sqL cost R K) i (K + k) = if k = i then 140737488355328 else 4611686018427387904 := by
  rw [cF_sq (by omega), sqRow, if_pos hi, List.getElem?_append_right (by rw [row_len hK (by omega)]; omega), row_len hK (by omega), show K + k - K = k by omega]
  by_cases e : k = i
  · rw [if_pos e, e, List.getElem?_set_self (by simpa using hi)]
    rfl
  · rw [if_neg e, List.getElem?_set_ne (fun q => e q.symm), List.getElem?_replicate, if_pos hk]
    rfl
theorem sq_rest {i j : Nat} (hi : R ≤ i) (hi2 : i < R + K) (hj : j < R + K) : cF (sqL cost R K) i j = 0 := by
  rw [cF_sq hi2, sqRow, if_neg (by omega), List.getElem?_replicate, if_pos hj]
  rfl
theorem cost_c (hR : cost.length = R) (hK : ∀ l ∈ cost, l.length = K) (hC : ∀ l ∈ cost, ∀ x ∈ l, isC x) {i j : Nat} (hi : i < R) (hj : j < K) : isC (cF cost i j) := by
  have hm := List.getElem_mem (l := cost) (show i < cost.length by omega)
  have hl := hK _ hm
  have e : cost[i]? = some cost[i] := List.getElem?_eq_getElem (by omega)
  unfold cF
  rw [e]
  show isC ((cost[i])[j]?.getD 0)
  rw [List.getElem?_eq_getElem (by omega)]
  exact hC _ hm _ (List.getElem_mem (l := cost[i]) (by omega))
theorem sq_cs (hR : cost.length = R) (h64 : R ≤ 64) (k64 : K ≤ 64) (hK : ∀ l ∈ cost, l.length = K) (hC : ∀ l ∈ cost, ∀ x ∈ l, isC x) : Cs (cF (sqL cost R K)) R K (R + K) where
  n := rfl
  r64 := h64
  k64 := k64
  bnd := fun i j hi hj => by
    by_cases h1 : i < R
    · by_cases h2 : j < K
      · rw [sq_low hR hK h1 h2]
        rcases cost_c hR hK hC h1 h2 with h | h
        · exact .inl h
        · exact .inr ⟨h.1, by have := h.2; omega⟩
      · obtain ⟨k, rfl⟩ : ∃ k, j = K + k := ⟨j - K, by omega⟩
        rw [sq_high hR hK h1 (by omega)]
        split <;> omega
    · rw [sq_rest (by omega) hi hj]
      omega
  own := fun i hi => by rw [sq_high hR hK hi hi, if_pos rfl]
  oth := fun i k hi hk hne => by rw [sq_high hR hK hi hk, if_neg hne]
  add := fun i j hR' hi hj => sq_rest hR' hi hj
end

/-- the loop over the columns that looks at a row, before column k. -/
structure ScanH (C : Nat → Nat → Int) (N : Nat) (u v : Nat → Int) (us : Nat → Bool) (row : Nat) (last : Int) (S0 B0 : Nat → Int) (k : Nat) (S B : Nat → Int) (nx : Int) : Prop where
  used : ∀ j, j < N → (k ≤ j ∨ us j = true) → S j = S0 j ∧ B j = B0 j
  yes : ∀ j, j < k → us j = false → C row j ≠ 4611686018427387904 → C row j - u row - v j < S0 j → S j = C row j - u row - v j ∧ B j = last
  no : ∀ j, j < k → us j = false → (C row j ≠ 4611686018427387904 → ¬ C row j - u row - v j < S0 j) → S j = S0 j ∧ B j = B0 j
  nx : (nx = -1 ∧ ∀ j, j < k → us j = true) ∨ ∃ x : Nat, x < k ∧ nx = x ∧ us x = false ∧ ∀ j, j < k → us j = false → S x ≤ S j
section
variable {C : Nat → Nat → Int} {N : Nat} {u v : Nat → Int} {us : Nat → Bool} {row : Nat} {last : Int} {S0 B0 S B : Nat → Int} {k : Nat} {nx : Int}
theorem ScanH.start : ScanH C N u v us row last S0 B0 0 S0 B0 (-1) :=
  ⟨fun _ _ _ => ⟨rfl, rfl⟩, fun j h => by omega, fun j h => by omega, .inl ⟨rfl, fun j h => by omega⟩⟩
theorem ScanH.skip (h : ScanH C N u v us row last S0 B0 k S B nx) (hu : us k = true) : ScanH C N u v us row last S0 B0 (k + 1) S B nx := by
  refine ⟨fun j hj hq => h.used j hj (hq.imp (fun q => by omega) id), fun j hj hf => ?_, fun j hj hf => ?_, ?_⟩
  · have e : j ≠ k := fun e => by rw [e, hu] at hf; cases hf
    exact h.yes j (by omega) hf
  · have e : j ≠ k := fun e => by rw [e, hu] at hf; cases hf
    exact h.no j (by omega) hf
  · rcases h.nx with ⟨h1, h2⟩ | ⟨x, h1, h2, h3, h4⟩
    · refine .inl ⟨h1, fun j hj => ?_⟩
      by_cases e : j = k
      · rw [e]; exact hu
      · exact h2 j (by omega)
    · refine .inr ⟨x, by omega, h2, h3, fun j hj hf => ?_⟩
      have e : j ≠ k := fun e => by rw [e, hu] at hf; cases hf
      exact h4 j (by omega) hf
/-- a column that is not used: S', B' are the rows after the comparison. -/
theorem ScanH.look (h : ScanH C N u v us row last S0 B0 k S B nx) (hk : k < N) (hu : us k = false) {S' B' : Nat → Int}
    (hS : (C row k ≠ 4611686018427387904 ∧ C row k - u row - v k < S k ∧ S' = putF S k (C row k - u row - v k) ∧ B' = putF B k last) ∨ ((C row k ≠ 4611686018427387904 → ¬ C row k - u row - v k < S k) ∧ S' = S ∧ B' = B))
    {nx' : Int} (hn : ((nx < 0 ∨ ∃ x : Nat, nx = x ∧ S' k < S' x) ∧ nx' = k) ∨ (∃ x : Nat, nx = x ∧ ¬ S' k < S' x ∧ nx' = nx)) :
    ScanH C N u v us row last S0 B0 (k + 1) S' B' nx' := by
  have e0 := h.used k hk (.inl (Nat.le_refl _))
  have hoth : ∀ j, j ≠ k → S' j = S j ∧ B' j = B j := by
    intro j hj
    rcases hS with ⟨_, _, e1, e2⟩ | ⟨_, e1, e2⟩
    · rw [e1, e2, putF_ne _ hj, putF_ne _ hj]; exact ⟨rfl, rfl⟩
    · rw [e1, e2]; exact ⟨rfl, rfl⟩
  refine ⟨fun j hj hq => ?_, fun j hj hf h1 h2 => ?_, fun j hj hf h1 => ?_, ?_⟩
  · have e : j ≠ k := by
      rintro rfl
      rcases hq with hq | hq
      · omega
      · rw [hu] at hq; cases hq
    rw [(hoth j e).1, (hoth j e).2]
    exact h.used j hj (hq.imp (fun q => by omega) id)
  · by_cases e : j = k
    · subst e
      rcases hS with ⟨_, _, e1, e2⟩ | ⟨q, e1, e2⟩
      · rw [e1, e2, putF_eq, putF_eq]; exact ⟨rfl, rfl⟩
      · exact absurd (by rw [e0.1]; exact h2) (q h1)
    · rw [(hoth j e).1, (hoth j e).2]
      exact h.yes j (by omega) hf h1 h2
  · by_cases e : j = k
    · subst e
      rcases hS with ⟨q1, q2, e1, e2⟩ | ⟨q, e1, e2⟩
      · exact absurd (by rw [← e0.1]; exact q2) (h1 q1)
      · rw [e1, e2]; exact e0
    · rw [(hoth j e).1, (hoth j e).2]
      exact h.no j (by omega) hf h1
  · right
    rcases hn with ⟨h1, h2⟩ | ⟨x, h1, h2, h3⟩
    · refine ⟨k, by omega, h2, hu, fun j hj hf => ?_⟩
      by_cases e : j = k
      · rw [e]; exact Int.le_refl _
      · rcases h.nx with ⟨q1, q2⟩ | ⟨x, q1, q2, q3, q4⟩
        · have := q2 j (by omega)
          rw [hf] at this; cases this
        · rcases h1 with h1 | ⟨y, h1, h4⟩
          · omega
          · obtain rfl : y = x := by omega
            have e1 := (hoth y (by omega)).1
            have e2 := (hoth j e).1
            have := q4 j (by omega) hf
            omega
    · rcases h.nx with ⟨q1, q2⟩ | ⟨y, q1, q2, q3, q4⟩
      · omega
      · obtain rfl : y = x := by omega
        refine ⟨y, by omega, by omega, q3, fun j hj hf => ?_⟩
        have e1 := (hoth y (by omega)).1
        by_cases e : j = k
        · rw [e]; omega
        · have e2 := (hoth j e).1
          have := q4 j (by omega) hf
          omega
end

/-- the loop over the columns that adapts the prices, before column k. -/
structure Adapt (N s : Nat) (ro : Nat → Int) (us : Nat → Bool) (d : Int) (u v S : Nat → Int) (k : Nat) (U V T : Nat → Int) : Prop where
  row : ∀ r, r < N → ((r = s ∨ ∃ j, j < k ∧ us j = true ∧ ro j = (r : Int)) → U r = u r + d) ∧ (¬ (r = s ∨ ∃ j, j < k ∧ us j = true ∧ ro j = (r : Int)) → U r = u r)
  col : ∀ j, j < N → ((j < k ∧ us j = true) → V j = v j - d) ∧ (¬ (j < k ∧ us j = true) → V j = v j)
  slk : ∀ j, j < N → ((j < k ∧ us j = false ∧ S j ≠ 4611686018427387904) → T j = S j - d) ∧ (¬ (j < k ∧ us j = false ∧ S j ≠ 4611686018427387904) → T j = S j)
section
variable {N s : Nat} {ro : Nat → Int} {us : Nat → Bool} {d : Int} {u v S U V T : Nat → Int} {k : Nat}
theorem Adapt.start : Adapt N s ro us d u v S 0 (putF u s (u s + d)) v S := by
  refine ⟨fun r hr => ⟨fun h => ?_, fun h => ?_⟩, fun j hj => ⟨fun h => by omega, fun _ => rfl⟩, fun j hj => ⟨fun h => by omega, fun _ => rfl⟩⟩
  · rcases h with e | ⟨j, hj, _⟩
    · rw [e, putF_eq]
    · omega
  · rw [putF_ne _ (fun e => h (.inl e))]
theorem Adapt.used (h : Adapt N s ro us d u v S k U V T) (hk : k < N) (hu : us k = true) {r : Nat} (hr : ro k = (r : Int)) (hrs : r ≠ s) (hinj : ∀ j, j < k → us j = true → ro j ≠ (r : Int)) (hrN : r < N) :
    U r = u r ∧ V k = v k ∧ Adapt N s ro us d u v S (k + 1) (putF U r (U r + d)) (putF V k (V k - d)) T := by
  have h1 : U r = u r := (h.row r hrN).2 (by
    rintro (e | ⟨j, hj, q1, q2⟩)
    · exact hrs e
    · exact hinj j hj q1 q2)
  have h2 : V k = v k := (h.col k hk).2 (by omega)
  refine ⟨h1, h2, fun q hq => ⟨fun hh => ?_, fun hh => ?_⟩, fun j hj => ⟨fun hh => ?_, fun hh => ?_⟩, fun j hj => ⟨fun hh => ?_, fun hh => ?_⟩⟩
  · by_cases e : q = r
    · rw [e, putF_eq, h1]
    · rw [putF_ne _ e]
      refine (h.row q hq).1 ?_
      rcases hh with hh | ⟨j, hj, q1, q2⟩
      · exact .inl hh
      · by_cases e2 : j = k
        · subst e2; exact absurd (by omega : q = r) e
        · exact .inr ⟨j, by omega, q1, q2⟩
  · have e : q ≠ r := by
      rintro rfl
      exact hh (.inr ⟨k, by omega, hu, hr⟩)
    rw [putF_ne _ e]
    refine (h.row q hq).2 ?_
    rintro (q1 | ⟨j, hj, q1, q2⟩)
    · exact hh (.inl q1)
    · exact hh (.inr ⟨j, by omega, q1, q2⟩)
  · by_cases e : j = k
    · rw [e, putF_eq, h2]
    · rw [putF_ne _ e]
      exact (h.col j hj).1 ⟨by omega, hh.2⟩
  · have e : j ≠ k := by
      rintro rfl
      exact hh ⟨by omega, hu⟩
    rw [putF_ne _ e]
    exact (h.col j hj).2 fun q => hh ⟨by omega, q.2⟩
  · have e : j ≠ k := by
      rintro rfl
      rw [hu] at hh
      cases hh.2.1
    exact (h.slk j hj).1 ⟨by omega, hh.2⟩
  · exact (h.slk j hj).2 fun q => hh ⟨by omega, q.2⟩
theorem Adapt.free (h : Adapt N s ro us d u v S k U V T) (hk : k < N) (hu : us k = false) {T' : Nat → Int} (hT : (S k ≠ 4611686018427387904 ∧ T' = putF T k (T k - d)) ∨ (S k = 4611686018427387904 ∧ T' = T)) :
    T k = S k ∧ Adapt N s ro us d u v S (k + 1) U V T' := by
  have h1 : T k = S k := (h.slk k hk).2 (by omega)
  refine ⟨h1, fun q hq => ⟨fun hh => ?_, fun hh => ?_⟩, fun j hj => ⟨fun hh => ?_, fun hh => ?_⟩, fun j hj => ⟨fun hh => ?_, fun hh => ?_⟩⟩
  · refine (h.row q hq).1 ?_
    rcases hh with hh | ⟨j, hj, q1, q2⟩
    · exact .inl hh
    · refine .inr ⟨j, ?_, q1, q2⟩
      have : j ≠ k := by rintro rfl; rw [hu] at q1; cases q1
      omega
  · refine (h.row q hq).2 ?_
    rintro (q1 | ⟨j, hj, q1, q2⟩)
    · exact hh (.inl q1)
    · exact hh (.inr ⟨j, by omega, q1, q2⟩)
  · refine (h.col j hj).1 ⟨?_, hh.2⟩
    have : j ≠ k := by rintro rfl; rw [hu] at hh; cases hh.2
    omega
  · exact (h.col j hj).2 fun q => hh ⟨by omega, q.2⟩
  · by_cases e : j = k
    · subst e
      rcases hT with ⟨q1, q2⟩ | ⟨q1, q2⟩
      · rw [q2, putF_eq, h1]
      · exact absurd q1 hh.2.2
    · have e2 : T' j = T j := by
        rcases hT with ⟨_, q2⟩ | ⟨_, q2⟩
        · rw [q2, putF_ne _ e]
        · rw [q2]
      rw [e2]
      exact (h.slk j hj).1 ⟨by omega, hh.2⟩
  · by_cases e : j = k
    · subst e
      rcases hT with ⟨q1, q2⟩ | ⟨q1, q2⟩
      · exact absurd ⟨by omega, hu, q1⟩ hh
      · rw [q2]; exact h1
    · have e2 : T' j = T j := by
        rcases hT with ⟨_, q2⟩ | ⟨_, q2⟩
        · rw [q2, putF_ne _ e]
        · rw [q2]
      rw [e2]
      exact (h.slk j hj).2 fun q => hh ⟨by omega, q.2⟩
/-- all columns are done. -/
theorem Adapt.done (h : Adapt N s ro us d u v S N U V T) :
    (∀ r, r < N → (Rch N s ro us r → U r = u r + d) ∧ (¬ Rch N s ro us r → U r = u r)) ∧ (∀ j, j < N → (us j = true → V j = v j - d) ∧ (us j = false → V j = v j)) ∧
    (∀ j, j < N → us j = false → (S j = 4611686018427387904 → T j = S j) ∧ (S j ≠ 4611686018427387904 → T j = S j - d)) := by
  refine ⟨h.row, fun j hj => ⟨fun q => (h.col j hj).1 ⟨hj, q⟩, fun q => (h.col j hj).2 fun q2 => ?_⟩, fun j hj hf => ⟨fun q => (h.slk j hj).2 fun q2 => q2.2.2 q, fun q => (h.slk j hj).1 ⟨hj, hf, q⟩⟩⟩
  rw [q] at q2
  cases q2.2
end
end
end Go.Proofs.YtimijjhdgihobaaGreatDoor
