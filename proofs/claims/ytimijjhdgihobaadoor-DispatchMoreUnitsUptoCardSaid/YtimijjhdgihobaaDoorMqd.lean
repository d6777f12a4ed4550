/-
  Plain: among the matchings at the same prices, a row takes its first column (assignment.square.advance). No program in sight.
  Plain: assignments of rows to columns, which is better, and that the solver's is the best. No program in sight.
  Plain: the order of assignments is an order; exhaustive search finds the best (samaritanref36.all). No program in sight.
-/
import Derived.Test.YtimijjhdgihobaaDoorMqc
namespace Go.Proofs.YtimijjhdgihobaaDoor
section
/-- row i and column j keep to the prices. -/
def Tg (C : Nat → Nat → Int) (u v : Nat → Int) (i j : Nat) : Prop := C i j ≠ 4611686018427387904 ∧ C i j = u i + v j
/-- every column has a row, at the prices; p j is the row of column j. -/
structure Pf (C : Nat → Nat → Int) (N : Nat) (u v : Nat → Int) (p : Nat → Nat) : Prop where
  inj : Inj p N N
  tig : ∀ j, j < N → Tg C u v (p j) j
theorem Mt.pf {C : Nat → Nat → Int} {R K N : Nat} {u v ro : Nat → Int} (_hc : Cs C R K N) (h : Mt C R N N u v ro) : ∃ p : Nat → Nat, (∀ j, j < N → ro j = p j) ∧ Pf C N u v p := by
  have hall : ∀ j, j < N → ∃ r : Nat, r < N ∧ ro j = r := by
    intro j hj
    refine (h.rng j hj).resolve_left fun e => ?_
    -- the rows below N have columns other than j
    have hx : ∀ r, r < N → ∃ k, k < N ∧ ro k = (r : Int) := h.sur
    have hi : Inj (fun r => if hr : r < N then (hx r hr).choose else 0) N N := by
      constructor
      · intro r hr
        show (if hr : r < N then (hx r hr).choose else 0) < N
        rw [dif_pos hr]
        exact (hx r hr).choose_spec.1
      · intro r q hr hq (e2 : (if hr : r < N then (hx r hr).choose else 0) = (if hq : q < N then (hx q hq).choose else 0))
        rw [dif_pos hr, dif_pos hq] at e2
        have h1 := (hx r hr).choose_spec.2
        have h2 := (hx q hq).choose_spec.2
        rw [e2] at h1
        omega
    obtain ⟨r, hr, e2⟩ := hi.onto hj
    have e2 : (if hr : r < N then (hx r hr).choose else 0) = j := e2
    rw [dif_pos hr] at e2
    have h1 := (hx r hr).choose_spec.2
    rw [e2, e] at h1
    omega
  refine ⟨fun j => (ro j).toNat, fun j hj => ?_, ⟨fun j hj => ?_, fun j k hj hk e => ?_⟩, fun j hj => ?_⟩
  · obtain ⟨r, hr, e⟩ := hall j hj
    show ro j = (((ro j).toNat : Nat) : Int)
    rw [e]; rfl
  · obtain ⟨r, hr, e⟩ := hall j hj
    show (ro j).toNat < N
    rw [e]; exact hr
  · obtain ⟨r, hr, e1⟩ := hall j hj
    obtain ⟨q, hq, e2⟩ := hall k hk
    have e : (ro j).toNat = (ro k).toNat := e
    exact h.inj j k hj hk (by omega) (by omega)
  · obtain ⟨r, hr, e⟩ := hall j hj
    show Tg C u v (ro j).toNat j
    rw [e]
    exact h.tig j r hj e

/-- the columns from which column 'home' can be freed: tw j is the column that the row of column j would take; Q are those that are not looked at. -/
structure Bf (C : Nat → Nat → Int) (N : Nat) (u v : Nat → Int) (p : Nat → Nat) (row home : Nat) (tw : Nat → Int) (rk : Nat → Nat) (t : Nat) : Prop where
  hom : tw home = -1
  rk0 : rk home = 0
  twr : ∀ j, j < N → tw j = -1 ∨ ∃ x : Nat, x < N ∧ tw j = x ∧ Tg C u v (p j) x ∧ row < p j ∧ (x = home ∨ 0 ≤ tw x) ∧ rk x < rk j
  top : ∀ j, j < N → 0 ≤ tw j → rk j ≤ t
/-- x is freed or can be. -/
def Zn (home : Nat) (tw : Nat → Int) (x : Nat) : Prop := x = home ∨ 0 ≤ tw x
theorem Bf.start {C : Nat → Nat → Int} {N : Nat} {u v : Nat → Int} {p : Nat → Nat} {row home : Nat} {tw : Nat → Int} (hh : home < N) (h : ∀ j, j < N → tw j = -1) : Bf C N u v p row home tw (fun _ => 0) 0 :=
  ⟨h home hh, rfl, fun j hj => .inl (h j hj), fun j hj q => by have := h j hj; omega⟩
/-- one more column. -/
theorem Bf.add {C : Nat → Nat → Int} {N : Nat} {u v : Nat → Int} {p : Nat → Nat} {row home : Nat} {tw : Nat → Int} {rk : Nat → Nat} {t : Nat} (h : Bf C N u v p row home tw rk t) {j x : Nat} (hj : j < N) (hx : x < N) (hzx : Zn home tw x) (hjh : j ≠ home) (hn : tw j < 0) (hr : row < p j) (ht : Tg C u v (p j) x) :
    Bf C N u v p row home (putF tw j (x : Int)) (putF rk j (t + 1)) (t + 1) := by
  have hjx : x ≠ j := by
    rintro rfl
    rcases hzx with e | e
    · exact hjh e
    · omega
  have hkeep : ∀ y, Zn home tw y → Zn home (putF tw j (x : Int)) y := by
    intro y hy
    by_cases e : y = j
    · right; rw [e, putF_eq]; omega
    · rcases hy with h1 | h1
      · exact .inl h1
      · right; rw [putF_ne _ e]; exact h1
  have hrx : rk x ≤ t := by
    rcases hzx with e | e
    · rw [e, h.rk0]; omega
    · exact h.top x hx e
  refine ⟨by rw [putF_ne _ (fun q => hjh q.symm)]; exact h.hom, by rw [putF_ne _ (fun q => hjh q.symm)]; exact h.rk0, ?_, ?_⟩
  · intro k hk
    by_cases e : k = j
    · right
      subst e
      refine ⟨x, hx, putF_eq _ _ _, ht, hr, hkeep x hzx, ?_⟩
      rw [putF_eq, putF_ne _ hjx]; omega
    · rcases h.twr k hk with h1 | ⟨y, h1, h2, h3, h4, h5, h6⟩
      · left; rw [putF_ne _ e]; exact h1
      · right
        refine ⟨y, h1, by rw [putF_ne _ e]; exact h2, h3, h4, hkeep y h5, ?_⟩
        have hyj : y ≠ j := by
          rintro rfl
          rcases h5 with e2 | e2
          · exact hjh e2
          · omega
        rw [putF_ne _ hyj, putF_ne _ e]; exact h6
  · intro k hk h0
    by_cases e : k = j
    · rw [e, putF_eq]; omega
    · rw [putF_ne _ e] at h0 ⊢
      have := h.top k hk h0
      omega

/-- column x has been looked at as far as column k. -/
def Look (C : Nat → Nat → Int) (u v : Nat → Int) (p : Nat → Nat) (row home : Nat) (tw : Nat → Int) (x k : Nat) : Prop := ∀ j, j < k → j ≠ home → row < p j → Tg C u v (p j) x → 0 ≤ tw j
theorem Look.put {C : Nat → Nat → Int} {u v : Nat → Int} {p : Nat → Nat} {row home : Nat} {tw : Nat → Int} {x k : Nat} (h : Look C u v p row home tw x k) (j y : Nat) : Look C u v p row home (putF tw j (y : Int)) x k := by
  intro i hi h1 h2 h3
  by_cases e : i = j
  · rw [e, putF_eq]; omega
  · rw [putF_ne _ e]; exact h i hi h1 h2 h3

/-- no matching at the prices that agrees on the rows below 'row' gives 'row' a column below k. -/
def NoLess (C : Nat → Nat → Int) (N : Nat) (u v : Nat → Int) (p : Nat → Nat) (row k : Nat) : Prop :=
  ∀ s : Nat → Nat, Inj s N N → (∀ i, i < N → Tg C u v i (s i)) → (∀ j, j < N → p j < row → s (p j) = j) → k ≤ s row
/-- the search is over: what 'row' cannot have. -/
theorem Bf.least {C : Nat → Nat → Int} {N : Nat} {u v : Nat → Int} {p : Nat → Nat} {row home : Nat} {tw : Nat → Int} {rk : Nat → Nat} {t : Nat} (hp : Pf C N u v p) (_h : Bf C N u v p row home tw rk t) (hrow : row < N) (hh : home < N) (hpr : p home = row)
    (hall : ∀ x, x < N → Zn home tw x → Look C u v p row home tw x N) {k : Nat} (hk : k ≤ home) (hno : ∀ j, j < k → 0 ≤ tw j → ¬ Tg C u v row j) : NoLess C N u v p row k := by
  intro s hs hst hag
  refine Nat.le_of_not_lt fun hlt => ?_
  have hnz : ¬ Zn home tw (s row) := by
    rintro (e | e)
    · omega
    · exact hno _ hlt e (hst row hrow)
  -- the columns that cannot be freed go to such columns
  obtain ⟨x, hx, hzx, e⟩ := Inj.keeps (f := fun j => s (p j)) (n := N) (fun j => ¬ Zn home tw j) (fun i hi _ => hs.lt _ (hp.inj.lt i hi)) (by
    intro j hj hz (hz2 : Zn home tw (s (p j)))
    have hjh : j ≠ home := fun q => hz (.inl q)
    rcases Nat.lt_trichotomy (p j) row with h1 | h1 | h1
    · rw [hag j hj h1] at hz2
      exact hz hz2
    · exact hjh (hp.inj.inj j home hj hh (h1.trans hpr.symm))
    · exact hz (.inr (hall _ (hs.lt _ (hp.inj.lt j hj)) hz2 j hj hjh h1 (hst _ (hp.inj.lt j hj))))) (fun i j hi hj _ _ e => hp.inj.inj i j hi hj (hs.inj _ _ (hp.inj.lt i hi) (hp.inj.lt j hj) e)) (hs.lt _ hrow) hnz
  have e2 : p x = row := hs.inj _ _ (hp.inj.lt x hx) hrow e
  have : x = home := hp.inj.inj x home hx hh (e2.trans hpr.symm)
  exact hzx (.inl this)

/-- the rows change their columns: 'r' is in hand, 'c' is the column that it takes; column 'home' still holds its old row. -/
structure Sh (C : Nat → Nat → Int) (N : Nat) (u v : Nat → Int) (p : Nat → Nat) (row home j0 : Nat) (rk : Nat → Nat) (q : Nat → Nat) (r : Nat) (c : Nat) : Prop where
  lt : c < N
  rlt : r < N
  qh : q home = row
  inj : Inj (putF q home r) N N
  tig : ∀ j, j < N → j ≠ home → Tg C u v (q j) j
  rc : Tg C u v r c
  low : ∀ j, j < N → p j < row → q j = p j
  rge : row ≤ r
  old : ∀ j, j < N → rk j ≤ rk c → q j = p j
  j0 : (c = j0 ∧ r = row) ∨ (q j0 = row ∧ rk c < rk j0)
/-- what a shift brings about. -/
structure Sd (C : Nat → Nat → Int) (N : Nat) (u v : Nat → Int) (p : Nat → Nat) (row j0 : Nat) (q : Nat → Nat) : Prop where
  pf : Pf C N u v q
  low : ∀ j, j < N → p j < row → q j = p j
  at_ : q j0 = row
section
variable {C : Nat → Nat → Int} {N : Nat} {u v : Nat → Int} {p : Nat → Nat} {row home j0 : Nat} {tw : Nat → Int} {rk : Nat → Nat} {t : Nat} {q : Nat → Nat} {r c : Nat}
theorem Sh.start (hp : Pf C N u v p) (_h : Bf C N u v p row home tw rk t) (hrow : row < N) (_hh : home < N) (hpr : p home = row) (hj : j0 < N) (ht : Tg C u v row j0) : Sh C N u v p row home j0 rk p row j0 := by
  refine ⟨hj, hrow, hpr, ?_, fun j hj _ => hp.tig j hj, ht, fun _ _ _ => rfl, Nat.le_refl _, fun _ _ _ => rfl, .inl ⟨rfl, rfl⟩⟩
  have : putF p home row = p := by
    funext j
    by_cases e : j = home
    · rw [e, putF_eq, hpr]
    · rw [putF_ne _ e]
  rw [this]
  exact hp.inj
theorem inj_swap {f : Nat → Nat} {n a b : Nat} (h : Inj f n n) (ha : a < n) (hb : b < n) (_hab : a ≠ b) : Inj (putF (putF f a (f b)) b (f a)) n n := by
  have hv : ∀ j, j < n → ∃ k, k < n ∧ putF (putF f a (f b)) b (f a) j = f k ∧ ((j = a ∧ k = b) ∨ (j = b ∧ k = a) ∨ (j ≠ a ∧ j ≠ b ∧ k = j)) := by
    intro j hj
    by_cases e1 : j = b
    · exact ⟨a, ha, by rw [e1, putF_eq], .inr (.inl ⟨e1, rfl⟩)⟩
    · rw [putF_ne _ e1]
      by_cases e2 : j = a
      · exact ⟨b, hb, by rw [e2, putF_eq], .inl ⟨e2, rfl⟩⟩
      · exact ⟨j, hj, by rw [putF_ne _ e2], .inr (.inr ⟨e2, e1, rfl⟩)⟩
  constructor
  · intro i hi
    obtain ⟨k, hk, e, _⟩ := hv i hi
    rw [e]; exact h.lt k hk
  · intro i j hi hj e
    obtain ⟨k, hk, e1, h1⟩ := hv i hi
    obtain ⟨l, hl, e2, h2⟩ := hv j hj
    rw [e1, e2] at e
    have := h.inj k l hk hl e
    omega
/-- a column on the way. -/
theorem Sh.step (_hp : Pf C N u v p) (h : Bf C N u v p row home tw rk t) (hh : home < N) (hs : Sh C N u v p row home j0 rk q r c) {x : Nat} (hx : tw c = x) : x < N ∧ rk x < rk c ∧ Sh C N u v p row home j0 rk (putF q c r) (q c) x := by
  rcases h.twr c hs.lt with e | ⟨y, h1, h2, h3, h4, h5, h6⟩
  · omega
  obtain rfl : x = y := by omega
  have hch : c ≠ home := by
    rintro rfl
    have := h.hom
    omega
  have hqc : q c = p c := hs.old c hs.lt (Nat.le_refl _)
  refine ⟨h1, h6, h1, ?_, ?_, ?_, ?_, ?_, ?_, ?_, ?_, ?_⟩
  · have := hs.inj.lt c hs.lt
    rw [putF_ne _ hch] at this
    exact this
  · rw [putF_ne _ (fun e => hch e.symm)]; exact hs.qh
  · have := inj_swap hs.inj hs.lt hh hch
    rw [putF_eq, putF_ne _ hch] at this
    have e : putF (putF (putF q home r) c r) home (q c) = putF (putF q c r) home (q c) := by
      funext j
      by_cases e1 : j = home
      · rw [e1, putF_eq, putF_eq]
      · rw [putF_ne _ e1, putF_ne _ e1]
        by_cases e2 : j = c
        · rw [e2, putF_eq, putF_eq]
        · rw [putF_ne _ e2, putF_ne _ e2, putF_ne _ e1]
    rw [e] at this
    exact this
  · intro j hj hjh
    by_cases e : j = c
    · rw [e, putF_eq]; exact hs.rc
    · rw [putF_ne _ e]; exact hs.tig j hj hjh
  · rw [hqc]; exact h3
  · intro j hj hlt
    by_cases e : j = c
    · rw [e] at hlt; omega
    · rw [putF_ne _ e]; exact hs.low j hj hlt
  · rw [hqc]; omega
  · intro j hj hle
    have e : j ≠ c := fun e => by rw [e] at hle; omega
    rw [putF_ne _ e]
    exact hs.old j hj (by omega)
  · right
    rcases hs.j0 with ⟨e1, e2⟩ | ⟨e1, e2⟩
    · rw [← e1, putF_eq]; exact ⟨e2, h6⟩
    · rw [putF_ne _ (fun e => by rw [e] at e2; omega)]
      exact ⟨e1, by omega⟩
/-- the last column is home. -/
theorem Sh.done (_hp : Pf C N u v p) (h : Bf C N u v p row home tw rk t) (hh : home < N) (hpr : p home = row) (hj0 : j0 ≠ home) (hz : Zn home tw c) (hs : Sh C N u v p row home j0 rk q r c) (hx : tw c < 0) : Sd C N u v p row j0 (putF q c r) := by
  have hc : c = home := by
    rcases hz with e | e
    · exact e
    · omega
  subst hc
  refine ⟨⟨hs.inj, ?_⟩, ?_, ?_⟩
  · intro j hj
    by_cases e : j = c
    · rw [e, putF_eq]; exact hs.rc
    · rw [putF_ne _ e]; exact hs.tig j hj e
  · intro j hj hlt
    by_cases e : j = c
    · rw [e] at hlt; omega
    · rw [putF_ne _ e]; exact hs.low j hj hlt
  · rcases hs.j0 with ⟨e1, _⟩ | ⟨e1, e2⟩
    · exact absurd e1.symm hj0
    · rw [putF_ne _ hj0]; exact e1
end
/-- the rows below i have their first columns. -/
def First (C : Nat → Nat → Int) (N : Nat) (u v : Nat → Int) (p : Nat → Nat) (i : Nat) : Prop := ∀ r, r < i → ∀ j, j < N → p j = r → NoLess C N u v p r j
theorem NoLess.move {C : Nat → Nat → Int} {N : Nat} {u v : Nat → Int} {p q : Nat → Nat} {row k : Nat} (h : NoLess C N u v p row k) (hp : ∀ j, j < N → p j < row → q j = p j) : NoLess C N u v q row k := by
  intro s hs hst hag
  refine h s hs hst fun j hj hlt => ?_
  have e := hp j hj hlt
  have := hag j hj (by omega)
  rw [e] at this
  exact this
/-- a shift keeps what the rows below have, and gives the row its first column. -/
theorem First.shift {C : Nat → Nat → Int} {N : Nat} {u v : Nat → Int} {p q : Nat → Nat} {row j0 : Nat} (hp : Pf C N u v p) (h : First C N u v p row) (hj0 : j0 < N) (hrow : row < N) (hn : NoLess C N u v p row j0) (hs : Sd C N u v p row j0 q) : First C N u v q (row + 1) := by
  intro r hr j hj e
  by_cases e2 : r = row
  · subst e2
    have : j = j0 := hs.pf.inj.inj j j0 hj hj0 (e.trans hs.at_.symm)
    subst this
    exact hn.move hs.low
  · obtain ⟨k, hk, e3⟩ := hp.inj.onto (show r < N by omega)
    have hk2 : q k = r := (hs.low k hk (by omega)).trans e3
    have : j = k := hs.pf.inj.inj j k hj hk (e.trans hk2.symm)
    subst this
    exact (h r (by omega) j hj e3).move fun i hi hlt => hs.low i hi (by omega)
/-- the row stays where it is. -/
theorem First.stay {C : Nat → Nat → Int} {N : Nat} {u v : Nat → Int} {p : Nat → Nat} {row home : Nat} (hp : Pf C N u v p) (h : First C N u v p row) (hh : home < N) (hpr : p home = row) (hn : NoLess C N u v p row home) : First C N u v p (row + 1) := by
  intro r hr j hj e
  by_cases e2 : r = row
  · subst e2
    have : j = home := hp.inj.inj j home hj hh (e.trans hpr.symm)
    subst this
    exact hn
  · exact h r (by omega) j hj e
end
section
/-- an assignment of R rows to K columns at costs c; -1: the row has none. -/
structure Va (c : Nat → Nat → Int) (R K : Nat) (m : Nat → Int) : Prop where
  at_ : ∀ i, i < R → m i = -1 ∨ ∃ k : Nat, k < K ∧ m i = k ∧ c i k ≠ 4611686018427387904
  inj : ∀ i j, i < R → j < R → m i = m j → m i ≠ -1 → i = j
/-- how many rows have columns. -/
def cnA (m : Nat → Int) (R : Nat) : Int := sumTo (fun i => if m i = -1 then 0 else 1) R
/-- what they cost. -/
def smA (c : Nat → Nat → Int) (m : Nat → Int) (R : Nat) : Int := sumTo (fun i => if m i = -1 then 0 else c i (m i).toNat) R
/-- a comes ahead of b. -/
def ahA (a b : Nat → Int) (R : Nat) : Prop := ∃ i, i < R ∧ (∀ k, k < i → a k = b k) ∧ a i ≠ b i ∧ a i ≠ -1 ∧ (b i = -1 ∨ a i < b i)
/-- a is better than b. -/
def btA (c : Nat → Nat → Int) (a b : Nat → Int) (R : Nat) : Prop := cnA b R < cnA a R ∨ (cnA a R = cnA b R ∧ (smA c a R < smA c b R ∨ (smA c a R = smA c b R ∧ ahA a b R)))
/-- the best assignment. -/
structure Bst (c : Nat → Nat → Int) (R K : Nat) (m : Nat → Int) : Prop where
  va : Va c R K m
  best : ∀ x, Va c R K x → ¬ btA c x m R
theorem Va.ge {c : Nat → Nat → Int} {R K : Nat} {m : Nat → Int} (h : Va c R K m) {i : Nat} (hi : i < R) : -1 ≤ m i := by
  rcases h.at_ i hi with e | ⟨k, _, e, _⟩ <;> omega
theorem least_diff {a b : Nat → Int} : ∀ {R : Nat}, (∀ i, i < R → a i = b i) ∨ ∃ i, i < R ∧ (∀ k, k < i → a k = b k) ∧ a i ≠ b i
  | 0 => .inl fun i hi => by omega
  | R + 1 => by
    rcases least_diff (a := a) (b := b) (R := R) with h | ⟨i, h1, h2, h3⟩
    · by_cases e : a R = b R
      · left
        intro i hi
        by_cases e2 : i = R
        · rw [e2]; exact e
        · exact h i (by omega)
      · exact .inr ⟨R, by omega, h, e⟩
    · exact .inr ⟨i, by omega, h2, h3⟩
/-- two assignments: they are one, or one is better. -/
theorem bt_three {c : Nat → Nat → Int} {R K : Nat} {a b : Nat → Int} (ha : Va c R K a) (hb : Va c R K b) : (∀ i, i < R → a i = b i) ∨ btA c a b R ∨ btA c b a R := by
  rcases least_diff (a := a) (b := b) (R := R) with h | ⟨i, h1, h2, h3⟩
  · exact .inl h
  · right
    rcases Int.lt_trichotomy (cnA a R) (cnA b R) with h4 | h4 | h4
    · exact .inr (.inl h4)
    · rcases Int.lt_trichotomy (smA c a R) (smA c b R) with h5 | h5 | h5
      · exact .inl (.inr ⟨h4, .inl h5⟩)
      · have ga := ha.ge h1
        have gb := hb.ge h1
        by_cases h6 : a i = -1
        · exact .inr (.inr ⟨h4.symm, .inr ⟨h5.symm, i, h1, fun k hk => (h2 k hk).symm, fun q => h3 q.symm, fun q => h3 (h6.trans q.symm), .inl h6⟩⟩)
        · by_cases h7 : b i = -1
          · exact .inl (.inr ⟨h4, .inr ⟨h5, i, h1, h2, h3, h6, .inl h7⟩⟩)
          · by_cases h8 : a i < b i
            · exact .inl (.inr ⟨h4, .inr ⟨h5, i, h1, h2, h3, h6, .inr h8⟩⟩)
            · exact .inr (.inr ⟨h4.symm, .inr ⟨h5.symm, i, h1, fun k hk => (h2 k hk).symm, fun q => h3 q.symm, h7, .inr (by omega)⟩⟩)
      · exact .inr (.inr ⟨h4.symm, .inl h5⟩)
    · exact .inl (.inl h4)
/-- there is one best assignment at most. -/
theorem Bst.one {c : Nat → Nat → Int} {R K : Nat} {a b : Nat → Int} (ha : Bst c R K a) (hb : Bst c R K b) {i : Nat} (hi : i < R) : a i = b i := by
  rcases bt_three ha.va hb.va with h | h | h
  · exact h i hi
  · exact absurd h (hb.best _ ha.va)
  · exact absurd h (ha.best _ hb.va)

/-- the column of each row in the square. -/
def colA (K : Nat) (m : Nat → Int) (i : Nat) : Nat := if m i = -1 then K + i else (m i).toNat
section
variable {C c : Nat → Nat → Int} {R K N : Nat} {m : Nat → Int}
theorem colA_inj (hc : Cs C R K N) (h : Va c R K m) : Inj (colA K m) R N := by
  have hv : ∀ i, i < R → (m i = -1 ∧ colA K m i = K + i) ∨ ∃ k : Nat, k < K ∧ m i = k ∧ colA K m i = k := by
    intro i hi
    rcases h.at_ i hi with e | ⟨k, h1, e, _⟩
    · exact .inl ⟨e, by simp [colA, e]⟩
    · refine .inr ⟨k, h1, e, ?_⟩
      unfold colA
      rw [if_neg (by omega), e]; rfl
  have hn := hc.n
  constructor
  · intro i hi
    rcases hv i hi with ⟨_, e⟩ | ⟨k, h1, _, e⟩ <;> omega
  · intro i j hi hj e
    rcases hv i hi with ⟨h1, e1⟩ | ⟨k, h1, e0, e1⟩ <;> rcases hv j hj with ⟨h2, e2⟩ | ⟨l, h2, e3, e2⟩
    · omega
    · omega
    · omega
    · exact h.inj i j hi hj (by omega) (by omega)
theorem colA_cost (hc : Cs C R K N) (hC : ∀ i j, i < R → j < K → C i j = c i j) (h : Va c R K m) {i : Nat} (hi : i < R) : C i (colA K m i) ≠ 4611686018427387904 ∧ C i (colA K m i) = if m i = -1 then 140737488355328 else c i (m i).toNat := by
  rcases h.at_ i hi with e | ⟨k, h1, e, h3⟩
  · have : colA K m i = K + i := by simp [colA, e]
    rw [this, hc.own i hi, if_pos e]
    exact ⟨by decide, rfl⟩
  · have : colA K m i = k := by
      unfold colA
      rw [if_neg (by omega), e]; rfl
    rw [this, hC i k hi h1, if_neg (by omega), e]
    exact ⟨h3, rfl⟩
theorem sum_cost (m : Nat → Int) (c : Nat → Nat → Int) : ∀ n : Nat, sumTo (fun i => if m i = -1 then 140737488355328 else c i (m i).toNat) n + 140737488355328 * cnA m n = 140737488355328 * (n : Int) + smA c m n
  | 0 => rfl
  | n + 1 => by
    have ih := sum_cost m c n
    have h1 : cnA m (n + 1) = cnA m n + (if m n = -1 then 0 else 1) := rfl
    have h2 : smA c m (n + 1) = smA c m n + (if m n = -1 then 0 else c n (m n).toNat) := rfl
    rw [sumTo, h1, h2]
    by_cases e : m n = -1
    · rw [if_pos e, if_pos e, if_pos e]; omega
    · rw [if_neg e, if_neg e, if_neg e]; omega
theorem colA_sum (hc : Cs C R K N) (hC : ∀ i j, i < R → j < K → C i j = c i j) (h : Va c R K m) : sumTo (fun i => C i (colA K m i)) R + 140737488355328 * cnA m R = 140737488355328 * (R : Int) + smA c m R := by
  rw [← sum_cost m c R, sumTo_congr (fun i hi => (colA_cost hc hC h hi).2)]
theorem small_sum (hb : ∀ i j, i < R → j < K → c i j = 4611686018427387904 ∨ (0 ≤ c i j ∧ c i j ≤ 1099511627776)) (h : Va c R K m) : ∀ n, n ≤ R → 0 ≤ smA c m n ∧ smA c m n ≤ 1099511627776 * (n : Int) ∧ 0 ≤ cnA m n ∧ cnA m n ≤ (n : Int)
  | 0, _ => by simp [smA, cnA, sumTo]
  | n + 1, hn => by
    have ih := small_sum hb h n (by omega)
    have h1 : cnA m (n + 1) = cnA m n + (if m n = -1 then 0 else 1) := rfl
    have h2 : smA c m (n + 1) = smA c m n + (if m n = -1 then 0 else c n (m n).toNat) := rfl
    rw [h1, h2]
    rcases h.at_ n (by omega) with e | ⟨k, h3, e, h4⟩
    · rw [if_pos e, if_pos e]; omega
    · rw [if_neg (by omega), if_neg (by omega), e]
      have h5 : ((k : Int)).toNat = k := rfl
      rw [h5]
      rcases hb n k (by omega) h3 with h6 | h6
      · exact absurd h6 h4
      · omega
end
/-- what the solver reads off is the best. -/
theorem solve_best {C c : Nat → Nat → Int} {R K N : Nat} {u v : Nat → Int} {p : Nat → Nat} {m ro : Nat → Int} (hc : Cs C R K N) (hC : ∀ i j, i < R → j < K → C i j = c i j)
    (hb : ∀ i j, i < R → j < K → c i j = 4611686018427387904 ∨ (0 ≤ c i j ∧ c i j ≤ 1099511627776)) (hm : Mt C R N N u v ro) (hp : Pf C N u v p) (hf : First C N u v p R)
    (hr : ∀ i, i < R → (∃ j, j < K ∧ p j = i ∧ m i = (j : Int)) ∨ (m i = -1 ∧ ∀ j, j < K → p j ≠ i)) : Bst c R K m := by
  have hn := hc.n
  have hva : Va c R K m := by
    constructor
    · intro i hi
      rcases hr i hi with ⟨j, h1, h2, h3⟩ | ⟨h1, _⟩
      · refine .inr ⟨j, h1, h3, ?_⟩
        have := (hp.tig j (by omega)).1
        rw [h2, hC i j hi h1] at this
        exact this
      · exact .inl h1
    · intro i j hi hj e he
      rcases hr i hi with ⟨k, h1, h2, h3⟩ | ⟨h1, _⟩
      · rcases hr j hj with ⟨l, h4, h5, h6⟩ | ⟨h4, _⟩
        · have : k = l := by omega
          subst this
          exact h2.symm.trans h5
        · exact absurd (e.trans h4) he
      · exact absurd h1 he
  -- the column of row i is p's
  have hcol : ∀ i, i < R → p (colA K m i) = i := by
    intro i hi
    rcases hr i hi with ⟨j, h1, h2, h3⟩ | ⟨h1, h2⟩
    · have : colA K m i = j := by
        unfold colA
        rw [if_neg (by omega), h3]; rfl
      rw [this]; exact h2
    · have e : colA K m i = K + i := by simp [colA, h1]
      rw [e]
      obtain ⟨j, hj, h3⟩ := hp.inj.onto (show i < N by omega)
      have hge : ¬ j < K := fun q => h2 j q h3
      have ht := (hp.tig j hj).1
      rw [h3] at ht
      have : j = K + i := by
        refine Classical.byContradiction fun hne => ?_
        have h5 := hc.oth i (j - K) hi (by omega) (by omega)
        rw [show K + (j - K) = j by omega] at h5
        exact ht h5
      rw [← this]; exact h3
  have hinj := colA_inj hc hva
  have hpr : Priced C 4611686018427387904 R N u v (colA K m) := by
    refine ⟨fun i hi j hj hf => hm.fair i j (by omega) hj hf, fun j hj => (hm.neg j hj).1, hinj, fun i hi => ?_, fun j hj hno => ?_⟩
    · have := (hp.tig _ (hinj.lt i hi)).2
      rw [hcol i hi] at this
      exact this
    · have hge : ¬ p j < R := fun q => hno (p j) q (hp.inj.inj _ _ (hinj.lt _ q) hj (hcol _ q))
      have h1 := (hp.tig j hj).2
      have h2 := hp.inj.lt j hj
      have h3 := hc.add (p j) j (by omega) h2 hj
      have h4 := hm.ux (p j) (by omega) h2
      omega
  refine ⟨hva, fun x hx hbt => ?_⟩
  have hxi := colA_inj hc hx
  have hxf := fun i hi => (colA_cost hc hC hx (i := i) hi).1
  have hle := hpr.least hxi hxf
  have e1 := colA_sum hc hC hva
  have e2 := colA_sum hc hC hx
  have s1 := small_sum hb hva R (Nat.le_refl _)
  have s2 := small_sum hb hx R (Nat.le_refl _)
  have h64 := hc.r64
  rcases hbt with h | ⟨h, h2 | ⟨h2, i, hi, hag, hne, hn1, hlt⟩⟩
  · omega
  · omega
  · obtain ⟨t1, t2⟩ := hpr.same hxi hxf (by omega)
    obtain ⟨s, hs1, hs2⟩ := hxi.full K (by omega)
    have hst : ∀ r, r < N → Tg C u v r (s r) := by
      intro r hr
      by_cases hrR : r < R
      · rw [hs1 r hrR]
        exact ⟨hxf r hrR, t1 r hrR⟩
      · have h3 := hc.add r (s r) (by omega) hr (hs2.lt r hr)
        have h4 := hm.ux r (by omega) hr
        have h5 := t2 (s r) (hs2.lt r hr) fun q hq e => by
          have := hs2.inj q r (by omega) hr ((hs1 q hq).trans e)
          omega
        refine ⟨?_, ?_⟩ <;> omega
    have hmin := hf i hi (colA K m i) (hinj.lt i hi) (hcol i hi) s hs2 hst (by
      intro j hj hlt
      obtain ⟨r, hr⟩ : ∃ r, r = p j := ⟨_, rfl⟩
      rw [← hr] at hlt ⊢
      have hrR : r < R := by omega
      have e3 : j = colA K m r := hp.inj.inj j _ hj (hinj.lt r hrR) (by rw [hcol r hrR, hr])
      rw [hs1 r hrR, e3]
      unfold colA
      rw [hag r hlt])
    rw [hs1 i hi] at hmin
    rcases hx.at_ i hi with e3 | ⟨k, h3, h4, h5⟩
    · exact hn1 e3
    · have e5 : colA K x i = k := by
        unfold colA
        rw [if_neg hn1, h4]; rfl
      have e6 : colA K m i = K + i ∨ ((colA K m i : Nat) : Int) = m i := by
        rcases hva.at_ i hi with e4 | ⟨l, h6, h7, h8⟩
        · exact .inl (by simp [colA, e4])
        · right
          unfold colA
          rw [if_neg (by omega), h7]; rfl
      rcases hlt with e4 | e4
      · have : colA K m i = K + i := by simp [colA, e4]
        omega
      · rcases e6 with e6 | e6
        · omega
        · omega
end
section
theorem ahA_trans {a b d : Nat → Int} {R : Nat} (h : ahA a b R) (h' : ahA b d R) : ahA a d R := by
  obtain ⟨i, hi, h1, h2, h3, h4⟩ := h
  obtain ⟨j, hj, k1, k2, k3, k4⟩ := h'
  rcases Nat.lt_trichotomy i j with hij | hij | hij
  · have e := k1 i hij
    exact ⟨i, hi, fun k hk => (h1 k hk).trans (k1 k (by omega)), by rw [← e]; exact h2, h3, by rw [← e]; exact h4⟩
  · subst hij
    refine ⟨i, hi, fun k hk => (h1 k hk).trans (k1 k hk), ?_, h3, ?_⟩
    · omega
    · omega
  · have e := h1 j hij
    exact ⟨j, hj, fun k hk => (h1 k (by omega)).trans (k1 k hk), by rw [e]; exact k2, by rw [e]; exact k3, by rw [e]; exact k4⟩
theorem btA_trans {c : Nat → Nat → Int} {a b d : Nat → Int} {R : Nat} (h : btA c a b R) (h' : btA c b d R) : btA c a d R := by
  rcases h with h | ⟨h1, h2⟩ <;> rcases h' with k | ⟨k1, k2⟩
  · exact .inl (by omega)
  · exact .inl (by omega)
  · exact .inl (by omega)
  · refine .inr ⟨by omega, ?_⟩
    rcases h2 with h2 | ⟨h2, h3⟩ <;> rcases k2 with k2 | ⟨k2, k3⟩
    · exact .inl (by omega)
    · exact .inl (by omega)
    · exact .inl (by omega)
    · exact .inr ⟨by omega, ahA_trans h3 k3⟩
theorem cnA_congr {a b : Nat → Int} {R : Nat} (h : ∀ i, i < R → a i = b i) : cnA a R = cnA b R := sumTo_congr fun i hi => by rw [h i hi]
theorem smA_congr {c : Nat → Nat → Int} {a b : Nat → Int} {R : Nat} (h : ∀ i, i < R → a i = b i) : smA c a R = smA c b R := sumTo_congr fun i hi => by rw [h i hi]
theorem btA_congr {c : Nat → Nat → Int} {a b a' b' : Nat → Int} {R : Nat} (h : ∀ i, i < R → a i = a' i) (h' : ∀ i, i < R → b i = b' i) (hb : btA c a b R) : btA c a' b' R := by
  unfold btA at hb ⊢
  rw [cnA_congr h, cnA_congr h', smA_congr h, smA_congr h'] at hb
  rcases hb with hb | ⟨h1, hb | ⟨h2, i, hi, h3, h4, h5, h6⟩⟩
  · exact .inl hb
  · exact .inr ⟨h1, .inl hb⟩
  · refine .inr ⟨h1, .inr ⟨h2, i, hi, fun k hk => ?_, ?_, ?_, ?_⟩⟩
    · rw [← h k (by omega), ← h' k (by omega)]; exact h3 k hk
    · rw [← h i hi, ← h' i hi]; exact h4
    · rw [← h i hi]; exact h5
    · rw [← h i hi, ← h' i hi]; exact h6
theorem Va.congr {c : Nat → Nat → Int} {R K : Nat} {a b : Nat → Int} (h : Va c R K a) (e : ∀ i, i < R → a i = b i) : Va c R K b :=
  ⟨fun i hi => by rw [← e i hi]; exact h.at_ i hi, fun i j hi hj => by rw [← e i hi, ← e j hj]; exact h.inj i j hi hj⟩
theorem btA_irr {c : Nat → Nat → Int} {a : Nat → Int} {R : Nat} (h : btA c a a R) : False := by
  rcases h with h | ⟨_, h | ⟨_, i, _, _, h, _⟩⟩
  · omega
  · omega
  · exact h rfl

/-- a list as a function. -/
def mF (m : List Int) (i : Nat) : Int := m[i]?.getD 0
/-- a matrix as a function. -/
def cF (cost : List (List Int)) (i j : Nat) : Int := (cost[i]?.getD [])[j]?.getD 0
theorem mF_app {m : List Int} {x : Int} : mF (m ++ [x]) m.length = x := by simp [mF]
theorem mF_get {m : List Int} {i : Nat} {x : Int} (h : m[i]? = some x) : mF m i = x := by simp [mF, h]
theorem mF_lt {m : List Int} {i : Nat} (h : i < m.length) : m[i]? = some (mF m i) := by simp [mF, h]
theorem mF_take {x m : List Int} (h : x.take m.length = m) {i : Nat} (hi : i < m.length) : mF x i = mF m i := by
  unfold mF
  rw [← h, List.getElem?_take]
  have : i < (x.take m.length).length := by rw [h]; exact hi
  rw [List.length_take] at this
  rw [if_pos hi]
theorem mF_ext {x y : List Int} (h : x.length = y.length) (e : ∀ i, i < x.length → mF x i = mF y i) : x = y := by
  refine List.ext_getElem? fun i => ?_
  by_cases hi : i < x.length
  · rw [mF_lt hi, mF_lt (by omega), e i hi]
  · rw [List.getElem?_eq_none (by omega), List.getElem?_eq_none (by omega)]
/-- a list has a prefix and one more. -/
theorem take_more {y m : List Int} {x : Int} (h : y.take m.length = m) (hl : m.length < y.length) (e : mF y m.length = x) : y.take (m ++ [x]).length = m ++ [x] := by
  rw [List.length_append, List.length_singleton, List.take_succ_eq_append_getElem hl, h]
  congr 1
  have := mF_get (List.getElem?_eq_getElem hl)
  rw [← this, e]
theorem take_less {y m : List Int} {x : Int} (h : y.take (m ++ [x]).length = m ++ [x]) : y.take m.length = m ∧ mF y m.length = x := by
  have h1 : mF y m.length = x := by
    rw [mF_take h (by simp)]
    exact mF_app
  refine ⟨?_, h1⟩
  have h2 := congrArg (List.take m.length) h
  rw [List.take_take] at h2
  simpa using h2

/-- the best assignment with a given prefix. -/
structure IsAll (c : Nat → Nat → Int) (R K : Nat) (pre x : List Int) : Prop where
  len : x.length = R
  hd : x.take pre.length = pre
  va : Va c R K (mF x)
  best : ∀ y : List Int, y.length = R → y.take pre.length = pre → Va c R K (mF y) → ¬ btA c (mF y) (mF x) R
/-- the best of those whose next row has no column, or one below j. -/
structure Alm (c : Nat → Nat → Int) (R K : Nat) (pre : List Int) (j : Nat) (x : List Int) : Prop where
  len : x.length = R
  hd : x.take pre.length = pre
  va : Va c R K (mF x)
  best : ∀ y : List Int, y.length = R → y.take pre.length = pre → Va c R K (mF y) → (mF y pre.length = -1 ∨ ∃ k : Nat, k < j ∧ mF y pre.length = k) → ¬ btA c (mF y) (mF x) R
section
variable {c : Nat → Nat → Int} {R K : Nat} {pre x best : List Int} {j : Nat}
theorem IsAll.full (hl : pre.length = R) (hv : Va c R K (mF pre)) : IsAll c R K pre pre := by
  refine ⟨hl, by rw [List.take_length], hv, fun y hy hp _ hb => ?_⟩
  rw [hl, ← hy, List.take_length] at hp
  rw [hp] at hb
  exact btA_irr hb
theorem Alm.start (h : IsAll c R K (pre ++ [-1]) x) (hl : pre.length < R) : Alm c R K pre 0 x := by
  obtain ⟨h1, _⟩ := take_less h.hd
  refine ⟨h.len, h1, h.va, fun y hy hp hv hk => ?_⟩
  rcases hk with e | ⟨k, hk, _⟩
  · exact h.best y hy (take_more hp (by omega) e) hv
  · omega
theorem Alm.skip (h : Alm c R K pre j best) (hno : ∀ y : List Int, y.length = R → y.take pre.length = pre → Va c R K (mF y) → mF y pre.length ≠ (j : Int)) : Alm c R K pre (j + 1) best := by
  refine ⟨h.len, h.hd, h.va, fun y hy hp hv hk => ?_⟩
  refine h.best y hy hp hv ?_
  rcases hk with e | ⟨k, hk, e⟩
  · exact .inl e
  · by_cases e2 : k = j
    · subst e2
      exact absurd e (hno y hy hp hv)
    · exact .inr ⟨k, by omega, e⟩
theorem Alm.take (h : Alm c R K pre j best) (hx : IsAll c R K (pre ++ [(j : Int)]) x) (hl : pre.length < R) (hb : btA c (mF x) (mF best) R) : Alm c R K pre (j + 1) x := by
  obtain ⟨h1, _⟩ := take_less hx.hd
  refine ⟨hx.len, h1, hx.va, fun y hy hp hv hk hyx => ?_⟩
  by_cases e2 : mF y pre.length = (j : Int)
  · exact hx.best y hy (take_more hp (by omega) e2) hv hyx
  · refine h.best y hy hp hv ?_ (btA_trans hyx hb)
    rcases hk with e | ⟨k, hk, e⟩
    · exact .inl e
    · exact .inr ⟨k, by omega, e⟩
theorem Alm.keep (h : Alm c R K pre j best) (hx : IsAll c R K (pre ++ [(j : Int)]) x) (hl : pre.length < R) (hb : ¬ btA c (mF x) (mF best) R) : Alm c R K pre (j + 1) best := by
  refine ⟨h.len, h.hd, h.va, fun y hy hp hv hk hyb => ?_⟩
  by_cases e2 : mF y pre.length = (j : Int)
  · have h1 := hx.best y hy (take_more hp (by omega) e2) hv
    rcases bt_three hx.va h.va with h2 | h2 | h2
    · exact h1 (btA_congr (fun _ _ => rfl) (fun i hi => (h2 i hi).symm) hyb)
    · exact hb h2
    · exact h1 (btA_trans hyb h2)
  · refine h.best y hy hp hv ?_ hyb
    rcases hk with e | ⟨k, hk, e⟩
    · exact .inl e
    · exact .inr ⟨k, by omega, e⟩
theorem Alm.done (h : Alm c R K pre K best) (hl : pre.length < R) : IsAll c R K pre best := by
  refine ⟨h.len, h.hd, h.va, fun y hy hp hv => h.best y hy hp hv ?_⟩
  rcases hv.at_ pre.length hl with e | ⟨k, hk, e, _⟩
  · exact .inl e
  · exact .inr ⟨k, hk, e⟩
theorem IsAll.bst (h : IsAll c R K [] x) : Bst c R K (mF x) := by
  refine ⟨h.va, fun y hy hb => ?_⟩
  have e : ∀ i, i < R → mF ((List.range R).map y) i = y i := by
    intro i hi
    exact mF_get (by rw [List.getElem?_map, List.getElem?_range hi]; rfl)
  refine h.best ((List.range R).map y) (by simp) (by simp) (hy.congr fun i hi => (e i hi).symm) (btA_congr (fun i hi => (e i hi).symm) (fun _ _ => rfl) hb)
end
/-- a prefix goes on. -/
theorem Va.more {c : Nat → Nat → Int} {k K : Nat} {m : List Int} {x : Int} (hk : m.length = k) (h : Va c k K (mF m)) (hx : x = -1 ∨ ∃ j : Nat, j < K ∧ x = j ∧ c k j ≠ 4611686018427387904) (hd : x = -1 ∨ ∀ y ∈ m, y ≠ x) : Va c (k + 1) K (mF (m ++ [x])) := by
  subst hk
  have hlt : ∀ i, i < m.length → mF (m ++ [x]) i = mF m i := fun i hi => by unfold mF; rw [List.getElem?_append_left hi]
  constructor
  · intro i hi
    by_cases e : i = m.length
    · rw [e, mF_app]; exact hx
    · rw [hlt i (by omega)]; exact h.at_ i (by omega)
  · intro i j hi hj
    by_cases e1 : i = m.length <;> by_cases e2 : j = m.length
    · intros; omega
    · rw [e1, mF_app, hlt j (by omega)]
      intro q1 q2
      rcases hd with hd | hd
      · exact absurd hd q2
      · exact absurd q1.symm (hd _ (List.mem_of_getElem? (mF_lt (show j < m.length by omega))))
    · rw [e2, mF_app, hlt i (by omega)]
      intro q1 q2
      rcases hd with hd | hd
      · exact absurd (q1.trans hd) q2
      · exact absurd q1 (hd _ (List.mem_of_getElem? (mF_lt (show i < m.length by omega))))
    · rw [hlt i (by omega), hlt j (by omega)]
      exact h.inj i j (by omega) (by omega)
/-- two best assignments are one. -/
theorem Bst.list {c : Nat → Nat → Int} {R K : Nat} {x y : List Int} (hx : Bst c R K (mF x)) (hy : Bst c R K (mF y)) (h1 : x.length = R) (h2 : y.length = R) : x = y :=
  mF_ext (by omega) fun i hi => hx.one hy (by omega)
end
end Go.Proofs.YtimijjhdgihobaaDoor
