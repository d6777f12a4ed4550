/-
  Plain: a row joins a matching at prices along a cheapest path (assignment.square.insert). No program in sight.
  Plain: among the matchings at the same prices, a row takes its first column (assignment.square.advance). No program in sight.
-/
import Derived.Test.YtimijjhdgihobaaGreatDoorMqb
namespace Go.Proofs.YtimijjhdgihobaaGreatDoor
section
/-- the square costs of R rows and K columns. -/
structure Cs (C : Nat → Nat → Int) (R K N : Nat) : Prop where
  n : N = R + K
  r64 : R ≤ 64
  k64 : K ≤ 64
  bnd : ∀ i j, i < N → j < N → C i j = 4611686018427387904 ∨ (0 ≤ C i j ∧ C i j ≤ 140737488355328)
  own : ∀ i, i < R → C i (K + i) = 140737488355328
  oth : ∀ i k, i < R → k < R → k ≠ i → C i (K + k) = 4611686018427387904
  add : ∀ i j, R ≤ i → i < N → j < N → C i j = 0

/-- the rows below s have columns, at prices u and v; ro j is the row of column j. -/
structure Mt (C : Nat → Nat → Int) (R N s : Nat) (u v ro : Nat → Int) : Prop where
  rng : ∀ j, j < N → ro j = -1 ∨ ∃ r : Nat, r < s ∧ ro j = r
  inj : ∀ j k, j < N → k < N → ro j = ro k → 0 ≤ ro j → j = k
  sur : ∀ r : Nat, r < s → ∃ j, j < N ∧ ro j = r
  fair : ∀ r j, r < s → j < N → C r j ≠ 4611686018427387904 → u r + v j ≤ C r j
  tig : ∀ (j r : Nat), j < N → ro j = r → C r j ≠ 4611686018427387904 ∧ C r j = u r + v j
  fre : ∀ j, j < N → ro j = -1 → v j = 0
  neg : ∀ j, j < N → v j ≤ 0 ∧ -((s : Int) * 140737488355328) ≤ v j
  un : ∀ r, s ≤ r → r < N → u r = 0
  ux : ∀ r, R ≤ r → r < N → u r = 0

theorem Mt.zero {C : Nat → Nat → Int} {R N : Nat} {u v ro : Nat → Int} (hu : ∀ r, r < N → u r = 0) (hv : ∀ j, j < N → v j = 0) (hr : ∀ j, j < N → ro j = -1) : Mt C R N 0 u v ro where
  rng := fun j hj => .inl (hr j hj)
  inj := fun j k hj _ _ h => by have := hr j hj; omega
  sur := fun r h => by omega
  fair := fun r j h => by omega
  tig := fun j r hj h => by have := hr j hj; omega
  fre := fun j hj _ => hv j hj
  neg := fun j hj => by have := hv j hj; omega
  un := fun r _ h => hu r h
  ux := fun r _ h => hu r h
/-- a column without a row that row s may have. -/
theorem Mt.some {C : Nat → Nat → Int} {R K N s : Nat} {u v ro : Nat → Int} (hc : Cs C R K N) (h : Mt C R N s u v ro) (hs : s < N) : ∃ f, f < N ∧ ro f = -1 ∧ C s f ≠ 4611686018427387904 ∧ 0 ≤ C s f ∧ C s f ≤ 140737488355328 ∧ (R ≤ s → C s f = 0) := by
  by_cases hR : s < R
  · have hf : K + s < N := by have := hc.n; omega
    have e := hc.own s hR
    refine ⟨K + s, hf, ?_, by omega, by omega, by omega, fun h => by omega⟩
    rcases h.rng _ hf with e1 | ⟨r, hr, e1⟩
    · exact e1
    · exact absurd (hc.oth r s (by omega) hR (by omega)) (h.tig _ r hf e1).1
  · have : ∃ f, f < N ∧ ro f = -1 := by
      refine Classical.byContradiction fun hno => ?_
      have hall : ∀ j, j < N → ∃ r : Nat, r < s ∧ ro j = r := fun j hj => (h.rng j hj).resolve_left fun e => hno ⟨j, hj, e⟩
      have hi : Inj (fun j => (ro j).toNat) N s := by
        constructor
        · intro j hj
          obtain ⟨r, hr, e⟩ := hall j hj
          show (ro j).toNat < s
          rw [e]; exact hr
        · intro j k hj hk (e : (ro j).toNat = (ro k).toNat)
          obtain ⟨r, hr, e1⟩ := hall j hj
          obtain ⟨q, hq, e2⟩ := hall k hk
          refine h.inj j k hj hk ?_ (by omega)
          rw [e1, e2] at e ⊢
          omega
      have := hi.le
      omega
    obtain ⟨f, hf, e⟩ := this
    have e0 := hc.add s f (by omega) hs hf
    exact ⟨f, hf, e, by omega, by omega, by omega, fun _ => e0⟩
/-- how large prices are. -/
theorem Mt.price {C : Nat → Nat → Int} {R K N s : Nat} {u v ro : Nat → Int} (hc : Cs C R K N) (h : Mt C R N s u v ro) (hs : s ≤ N) {r : Nat} (hr : r < s) : 0 ≤ u r ∧ u r ≤ 140737488355328 + (s : Int) * 140737488355328 := by
  obtain ⟨j, hj, e⟩ := h.sur r hr
  obtain ⟨h1, h2⟩ := h.tig j r hj e
  have h3 := h.neg j hj
  rcases hc.bnd r j (by omega) hj with h4 | h4
  · exact absurd h4 h1
  · omega

/-- the row from which column j is reached. -/
def Par (N s : Nat) (ro bf : Nat → Int) (us : Nat → Bool) (j r : Nat) : Prop := (bf j = -1 ∧ r = s) ∨ ∃ b : Nat, b < N ∧ bf j = b ∧ us b = true ∧ ro b = r
/-- the rows that are reached. -/
def Rch (N s : Nat) (ro : Nat → Int) (us : Nat → Bool) (r : Nat) : Prop := r = s ∨ ∃ j, j < N ∧ us j = true ∧ ro j = (r : Int)

/-- the search for a cheapest path: X are the rows that are reached and not looked at. -/
structure Dj (C : Nat → Nat → Int) (N s : Nat) (u0 v0 ro u v sl bf : Nat → Int) (us : Nat → Bool) (X : Nat → Prop) (rk : Nat → Nat) (t : Nat) : Prop where
  usm : ∀ j, j < N → us j = true → ∃ r : Nat, r < s ∧ ro j = r
  fair : ∀ r j, r ≤ s → j < N → C r j ≠ 4611686018427387904 → u r + v j ≤ C r j
  tig : ∀ (j r : Nat), j < N → ro j = r → C r j ≠ 4611686018427387904 ∧ C r j = u r + v j
  fre : ∀ j, j < N → ro j = -1 → v j = 0
  dv : ∀ j, j < N → v0 j - u s ≤ v j ∧ v j ≤ v0 j
  du : ∀ r, r < s → u0 r ≤ u r ∧ u r ≤ u0 r + u s
  pos : 0 ≤ u s
  un : ∀ r, s < r → r < N → u r = 0
  sll : ∀ j r, j < N → us j = false → Rch N s ro us r → ¬ X r → C r j ≠ 4611686018427387904 → sl j ≤ C r j - u r - v j
  sle : ∀ j, j < N → us j = false → sl j = 4611686018427387904 ∨ ∃ r, Par N s ro bf us j r ∧ Rch N s ro us r ∧ C r j ≠ 4611686018427387904 ∧ sl j = C r j - u r - v j
  pth : ∀ j, j < N → us j = true → ∃ r, Par N s ro bf us j r ∧ C r j ≠ 4611686018427387904 ∧ C r j = u r + v j ∧ ∀ b : Nat, bf j = b → rk b < rk j
  rkt : ∀ j, j < N → us j = true → rk j < t

theorem Rch.le {C : Nat → Nat → Int} {N s : Nat} {u0 v0 ro u v sl bf : Nat → Int} {us : Nat → Bool} {X : Nat → Prop} {rk : Nat → Nat} {t : Nat} (h : Dj C N s u0 v0 ro u v sl bf us X rk t) {r : Nat} (hr : Rch N s ro us r) : r ≤ s := by
  rcases hr with rfl | ⟨j, hj, hu, e⟩
  · exact Nat.le_refl _
  · obtain ⟨q, hq, e2⟩ := h.usm j hj hu
    omega
/-- the search begins. -/
theorem Dj.start {C : Nat → Nat → Int} {R K N s : Nat} {u v ro sl bf : Nat → Int} {us : Nat → Bool} (hc : Cs C R K N) (h : Mt C R N s u v ro) (hs : s < N) (hl : ∀ j, j < N → sl j = 4611686018427387904) (hu : ∀ j, j < N → us j = false) : Dj C N s u v ro u v sl bf us (fun r => r = s) (fun _ => 0) 0 where
  usm := fun j hj h1 => by rw [hu j hj] at h1; cases h1
  fair := fun r j hr hj h1 => by
    by_cases e : r = s
    · subst e
      have h2 := h.un r (Nat.le_refl _) hs
      have h3 := h.neg j hj
      rcases hc.bnd r j hs hj with h4 | h4
      · exact absurd h4 h1
      · omega
    · exact h.fair r j (by omega) hj h1
  tig := h.tig
  fre := h.fre
  dv := fun j _ => by have := h.un s (Nat.le_refl _) hs; omega
  du := fun r _ => by have := h.un s (Nat.le_refl _) hs; omega
  pos := by have := h.un s (Nat.le_refl _) hs; omega
  un := fun r h1 h2 => h.un r (by omega) h2
  sll := fun j r _ _ hr hX _ => by
    rcases hr with e | ⟨k, hk, h1, _⟩
    · exact absurd e hX
    · rw [hu k hk] at h1; cases h1
  sle := fun j hj _ => .inl (hl j hj)
  pth := fun j hj h1 => by rw [hu j hj] at h1; cases h1
  rkt := fun j hj h1 => by rw [hu j hj] at h1; cases h1
/-- prices stay small during the search. -/
theorem Dj.bound {C : Nat → Nat → Int} {R K N s : Nat} {u0 v0 ro u v sl bf : Nat → Int} {us : Nat → Bool} {X : Nat → Prop} {rk : Nat → Nat} {t : Nat} (hc : Cs C R K N) (hm : Mt C R N s u0 v0 ro) (hs : s < N) (h : Dj C N s u0 v0 ro u v sl bf us X rk t) :
    (0 ≤ u s ∧ u s ≤ 140737488355328) ∧ (R ≤ s → u s = 0) ∧ (∀ r, r ≤ s → 0 ≤ u r ∧ u r ≤ 36028797018963968) ∧ (∀ j, j < N → -36028797018963968 ≤ v j ∧ v j ≤ 0) := by
  obtain ⟨f, hf, e1, e2, e3, e4, e5⟩ := hm.some hc hs
  have h1 := h.fair s f (Nat.le_refl _) hf e2
  have h2 := h.fre f hf e1
  have h3 := h.pos
  have hn := hc.n
  have hr := hc.r64
  have hk := hc.k64
  refine ⟨⟨h3, by omega⟩, fun q => by have := e5 q; omega, fun r hr => ?_, fun j hj => ?_⟩
  · by_cases e : r = s
    · subst e; omega
    · have h4 := h.du r (by omega)
      have h5 := hm.price hc (by omega) (show r < s by omega)
      omega
  · have h4 := h.dv j hj
    have h5 := hm.neg j hj
    omega
/-- a row is looked at. -/
theorem Dj.scan {C : Nat → Nat → Int} {N s : Nat} {u0 v0 ro u v sl bf sl1 bf1 : Nat → Int} {us : Nat → Bool} {row : Nat} {last : Int} {rk : Nat → Nat} {t : Nat} (h : Dj C N s u0 v0 ro u v sl bf us (fun r => r = row) rk t)
    (hrow : (last = -1 ∧ row = s) ∨ ∃ l : Nat, l < N ∧ last = l ∧ us l = true ∧ ro l = row)
    (hu : ∀ j, j < N → us j = true → sl1 j = sl j ∧ bf1 j = bf j)
    (hy : ∀ j, j < N → us j = false → C row j ≠ 4611686018427387904 → C row j - u row - v j < sl j → sl1 j = C row j - u row - v j ∧ bf1 j = last)
    (hn : ∀ j, j < N → us j = false → (C row j ≠ 4611686018427387904 → ¬ C row j - u row - v j < sl j) → sl1 j = sl j ∧ bf1 j = bf j) :
    Dj C N s u0 v0 ro u v sl1 bf1 us (fun _ => False) rk t where
  usm := h.usm
  fair := h.fair
  tig := h.tig
  fre := h.fre
  dv := h.dv
  du := h.du
  pos := h.pos
  un := h.un
  rkt := h.rkt
  sll := fun j r hj hf hr _ hc => by
    by_cases hlt : C row j ≠ 4611686018427387904 ∧ C row j - u row - v j < sl j
    · obtain ⟨e, _⟩ := hy j hj hf hlt.1 hlt.2
      by_cases e2 : r = row
      · subst e2; omega
      · have := h.sll j r hj hf hr e2 hc
        omega
    · obtain ⟨e, _⟩ := hn j hj hf fun q1 q2 => hlt ⟨q1, q2⟩
      by_cases e2 : r = row
      · subst e2
        have : ¬ C r j - u r - v j < sl j := fun q => hlt ⟨hc, q⟩
        omega
      · have := h.sll j r hj hf hr e2 hc
        omega
  sle := fun j hj hf => by
    by_cases hlt : C row j ≠ 4611686018427387904 ∧ C row j - u row - v j < sl j
    · obtain ⟨e, e2⟩ := hy j hj hf hlt.1 hlt.2
      right
      rcases hrow with ⟨h1, h2⟩ | ⟨l, h1, h2, h3, h4⟩
      · exact ⟨row, .inl ⟨e2.trans h1, h2⟩, .inl h2, hlt.1, e⟩
      · exact ⟨row, .inr ⟨l, h1, e2.trans h2, h3, h4⟩, .inr ⟨l, h1, h3, h4⟩, hlt.1, e⟩
    · obtain ⟨e, e2⟩ := hn j hj hf fun q1 q2 => hlt ⟨q1, q2⟩
      rcases h.sle j hj hf with h1 | ⟨r, h1, h2, h3, h4⟩
      · exact .inl (e.trans h1)
      · refine .inr ⟨r, ?_, h2, h3, e.trans h4⟩
        rcases h1 with ⟨h1, h5⟩ | ⟨b, h5, h6, h7⟩
        · exact .inl ⟨e2.trans h1, h5⟩
        · exact .inr ⟨b, h5, e2.trans h6, h7⟩
  pth := fun j hj ht => by
    obtain ⟨r, h1, h2, h3, h4⟩ := h.pth j hj ht
    obtain ⟨_, e2⟩ := hu j hj ht
    refine ⟨r, ?_, h2, h3, fun b hb => h4 b (e2.symm.trans hb)⟩
    rcases h1 with ⟨h1, h5⟩ | ⟨b, h5, h6, h7⟩
    · exact .inl ⟨e2.trans h1, h5⟩
    · exact .inr ⟨b, h5, e2.trans h6, h7⟩
/-- the least slack is a number. -/
theorem Dj.delta {C : Nat → Nat → Int} {R K N s : Nat} {u0 v0 ro u v sl bf : Nat → Int} {us : Nat → Bool} {rk : Nat → Nat} {t : Nat} (hc : Cs C R K N) (hm : Mt C R N s u0 v0 ro) (hs : s < N) (h : Dj C N s u0 v0 ro u v sl bf us (fun _ => False) rk t)
    {nx : Nat} (hx : nx < N) (hux : us nx = false) (hmin : ∀ j, j < N → us j = false → sl nx ≤ sl j) : 0 ≤ sl nx ∧ sl nx ≤ 140737488355328 ∧ ∃ r, Par N s ro bf us nx r ∧ Rch N s ro us r ∧ C r nx ≠ 4611686018427387904 ∧ sl nx = C r nx - u r - v nx := by
  obtain ⟨f, hf, e1, e2, e3, e4, e5⟩ := hm.some hc hs
  have hff : us f = false := by
    cases hq : us f with
    | false => rfl
    | true =>
      obtain ⟨r, _, e⟩ := h.usm f hf hq
      omega
  have h1 := hmin f hf hff
  have h2 := h.sll f s hf hff (.inl rfl) (fun q => q) e2
  have h3 := h.fre f hf e1
  have h4 := h.pos
  have hle : sl nx ≤ 140737488355328 := by omega
  rcases h.sle nx hx hux with h5 | ⟨r, h5, h6, h7, h8⟩
  · omega
  · have h9 := h.fair r nx (h6.le h) hx h7
    exact ⟨by omega, hle, r, h5, h6, h7, h8⟩
/-- the prices are adapted: what holds whether or not the column has a row. -/
structure Dj2 (C : Nat → Nat → Int) (N s : Nat) (u0 v0 ro u v bf : Nat → Int) (us : Nat → Bool) (rk : Nat → Nat) (t : Nat) : Prop where
  fair : ∀ r j, r ≤ s → j < N → C r j ≠ 4611686018427387904 → u r + v j ≤ C r j
  tig : ∀ (j r : Nat), j < N → ro j = r → C r j ≠ 4611686018427387904 ∧ C r j = u r + v j
  fre : ∀ j, j < N → ro j = -1 → v j = 0
  dv : ∀ j, j < N → v0 j - u s ≤ v j ∧ v j ≤ v0 j
  du : ∀ r, r < s → u0 r ≤ u r ∧ u r ≤ u0 r + u s
  pos : 0 ≤ u s
  un : ∀ r, s < r → r < N → u r = 0
  pth : ∀ j, j < N → us j = true → ∃ r, Par N s ro bf us j r ∧ C r j ≠ 4611686018427387904 ∧ C r j = u r + v j ∧ ∀ b : Nat, bf j = b → rk b < rk j
  rkt : ∀ j, j < N → us j = true → rk j < t

section
variable {C : Nat → Nat → Int} {R K N s : Nat} {u0 v0 ro u v sl bf u1 v1 sl1 : Nat → Int} {us : Nat → Bool} {rk : Nat → Nat} {t nx : Nat}
theorem par_put {j r : Nat} (h : Par N s ro bf us j r) : Par N s ro bf (putF us nx true) j r := by
  rcases h with h | ⟨b, h1, h2, h3, h4⟩
  · exact .inl h
  · refine .inr ⟨b, h1, h2, ?_, h4⟩
    by_cases e : b = nx
    · rw [e, putF_eq]
    · rw [putF_ne _ e]; exact h3
theorem Dj.prices (hc : Cs C R K N) (hm : Mt C R N s u0 v0 ro) (hs : s < N) (h : Dj C N s u0 v0 ro u v sl bf us (fun _ => False) rk t)
    (hx : nx < N) (hux : us nx = false) (hmin : ∀ j, j < N → us j = false → sl nx ≤ sl j)
    (hu1 : ∀ r, r < N → (Rch N s ro us r → u1 r = u r + sl nx) ∧ (¬ Rch N s ro us r → u1 r = u r))
    (hv1 : ∀ j, j < N → (us j = true → v1 j = v j - sl nx) ∧ (us j = false → v1 j = v j)) :
    Dj2 C N s u0 v0 ro u1 v1 bf (putF us nx true) (putF rk nx t) (t + 1) := by
  obtain ⟨d0, d1, rx, px, qx, fx, ex⟩ := h.delta hc hm hs hx hux hmin
  have hsu := (hu1 s hs).1 (.inl rfl)
  have hst := h.pos
  have hmat : ∀ (j r : Nat), j < N → ro j = r → r < s → (us j = true → Rch N s ro us r) ∧ (us j = false → ¬ Rch N s ro us r) := by
    intro j r hj e hr
    refine ⟨fun ht => .inr ⟨j, hj, ht, e⟩, fun hf hq => ?_⟩
    rcases hq with hq | ⟨k, hk, hk2, hk3⟩
    · omega
    · have := hm.inj j k hj hk (by rw [e, hk3]) (by omega)
      subst this
      rw [hf] at hk2
      cases hk2
  have hlt : ∀ (j r : Nat), j < N → ro j = r → r < s := fun j r hj e => by
    rcases hm.rng j hj with e2 | ⟨q, hq, e2⟩ <;> omega
  refine ⟨?_, ?_, ?_, ?_, ?_, ?_, ?_, ?_, ?_⟩
  · intro r j hr hj hf
    have h1 := h.fair r j hr hj hf
    have hU := hu1 r (by omega)
    have hV := hv1 j hj
    by_cases hR : Rch N s ro us r
    · cases hq : us j with
      | true => have := hU.1 hR; have := hV.1 hq; omega
      | false =>
        have := hU.1 hR
        have := hV.2 hq
        have := h.sll j r hj hq hR (fun q => q) hf
        have := hmin j hj hq
        omega
    · cases hq : us j with
      | true => have := hU.2 hR; have := hV.1 hq; omega
      | false => have := hU.2 hR; have := hV.2 hq; omega
  · intro j r hj e
    obtain ⟨h1, h2⟩ := h.tig j r hj e
    refine ⟨h1, ?_⟩
    have hr := hlt j r hj e
    have hU := hu1 r (by omega)
    have hV := hv1 j hj
    obtain ⟨m1, m2⟩ := hmat j r hj e hr
    cases hq : us j with
    | true => have := hU.1 (m1 hq); have := hV.1 hq; omega
    | false => have := hU.2 (m2 hq); have := hV.2 hq; omega
  · intro j hj e
    have hV := hv1 j hj
    cases hq : us j with
    | true => obtain ⟨r, _, e2⟩ := h.usm j hj hq; omega
    | false => rw [hV.2 hq]; exact h.fre j hj e
  · intro j hj
    have hV := hv1 j hj
    have := h.dv j hj
    cases hq : us j with
    | true => have := hV.1 hq; omega
    | false => have := hV.2 hq; omega
  · intro r hr
    have hU := hu1 r (by omega)
    have := h.du r hr
    by_cases hR : Rch N s ro us r
    · have := hU.1 hR; omega
    · have := hU.2 hR; omega
  · omega
  · intro r hr hN
    have hU := hu1 r hN
    rw [hU.2 (fun q => by have := q.le h; omega)]
    exact h.un r hr hN
  · intro j hj ht
    by_cases e : j = nx
    · subst e
      refine ⟨rx, par_put px, fx, ?_, ?_⟩
      · have hU := (hu1 rx (by have := qx.le h; omega)).1 qx
        have hV := (hv1 j hj).2 hux
        omega
      · intro b hb
        rcases px with ⟨e1, _⟩ | ⟨b', h1, h2, h3, h4⟩
        · omega
        · obtain rfl : b = b' := by omega
          have hne : b ≠ j := fun q => by rw [q, hux] at h3; cases h3
          rw [putF_eq, putF_ne _ hne]
          exact h.rkt b h1 h3
    · rw [putF_ne _ e] at ht
      obtain ⟨r, h1, h2, h3, h4⟩ := h.pth j hj ht
      refine ⟨r, par_put h1, h2, ?_, ?_⟩
      · have hR : Rch N s ro us r := by
          rcases h1 with ⟨_, e2⟩ | ⟨b, h5, h6, h7, h8⟩
          · exact .inl e2
          · exact .inr ⟨b, h5, h7, h8⟩
        have hU := (hu1 r (by have := hR.le h; omega)).1 hR
        have hV := (hv1 j hj).1 ht
        omega
      · intro b hb
        have hlt2 := h4 b hb
        have hbN : us b = true := by
          rcases h1 with ⟨e1, _⟩ | ⟨b', h5, h6, h7, h8⟩
          · omega
          · obtain rfl : b = b' := by omega
            exact h7
        have hne : b ≠ nx := fun q => by rw [q, hux] at hbN; cases hbN
        rw [putF_ne _ hne, putF_ne _ e]
        exact hlt2
  · intro j hj ht
    by_cases e : j = nx
    · rw [e, putF_eq]; omega
    · rw [putF_ne _ e] at ht ⊢
      have := h.rkt j hj ht
      omega
/-- the column has a row: the search goes on from there. -/
theorem Dj.next (hc : Cs C R K N) (hm : Mt C R N s u0 v0 ro) (hs : s < N) (h : Dj C N s u0 v0 ro u v sl bf us (fun _ => False) rk t)
    (hx : nx < N) (hux : us nx = false) (hmin : ∀ j, j < N → us j = false → sl nx ≤ sl j)
    (hu1 : ∀ r, r < N → (Rch N s ro us r → u1 r = u r + sl nx) ∧ (¬ Rch N s ro us r → u1 r = u r))
    (hv1 : ∀ j, j < N → (us j = true → v1 j = v j - sl nx) ∧ (us j = false → v1 j = v j))
    (hl1 : ∀ j, j < N → us j = false → (sl j = 4611686018427387904 → sl1 j = sl j) ∧ (sl j ≠ 4611686018427387904 → sl1 j = sl j - sl nx))
    {row : Nat} (hrow : ro nx = row) :
    Dj C N s u0 v0 ro u1 v1 sl1 bf (putF us nx true) (fun r => r = row) (putF rk nx t) (t + 1) := by
  have h2 := h.prices hc hm hs hx hux hmin hu1 hv1
  have hbk : ∀ j, putF us nx true j = false → j ≠ nx ∧ us j = false := by
    intro j hj
    by_cases e : j = nx
    · rw [e, putF_eq] at hj; cases hj
    · rw [putF_ne _ e] at hj; exact ⟨e, hj⟩
  refine ⟨?_, h2.fair, h2.tig, h2.fre, h2.dv, h2.du, h2.pos, h2.un, ?_, ?_, h2.pth, h2.rkt⟩
  · intro j hj ht
    by_cases e : j = nx
    · rw [e]
      rcases hm.rng nx hx with e2 | h3
      · omega
      · exact h3
    · rw [putF_ne _ e] at ht
      exact h.usm j hj ht
  · intro j r hj hf hr hX hfin
    obtain ⟨hne, hf⟩ := hbk j hf
    have hR : Rch N s ro us r := by
      rcases hr with e | ⟨k, hk, hk2, hk3⟩
      · exact .inl e
      · by_cases e : k = nx
        · subst e
          exact absurd (by omega : r = row) hX
        · rw [putF_ne _ e] at hk2
          exact .inr ⟨k, hk, hk2, hk3⟩
    have h3 := h.sll j r hj hf hR (fun q => q) hfin
    have hU := (hu1 r (by have := hR.le h; omega)).1 hR
    have hV := (hv1 j hj).2 hf
    have hL := hl1 j hj hf
    have hb := h.bound hc hm hs
    have hb1 := hb.2.2.1 r (hR.le h)
    have hb2 := hb.2.2.2 j hj
    rcases hc.bnd r j (by have := hR.le h; omega) hj with h4 | h4
    · exact absurd h4 hfin
    · have := hL.2 (by omega)
      omega
  · intro j hj hf
    obtain ⟨hne, hf⟩ := hbk j hf
    have hL := hl1 j hj hf
    have hV := (hv1 j hj).2 hf
    by_cases e : sl j = 4611686018427387904
    · exact .inl ((hL.1 e).trans e)
    · rcases h.sle j hj hf with h3 | ⟨r, h3, h4, h5, h6⟩
      · exact absurd h3 e
      · have hU := (hu1 r (by have := h4.le h; omega)).1 h4
        have := hL.2 e
        refine .inr ⟨r, par_put h3, ?_, h5, by omega⟩
        rcases h4 with q | ⟨k, hk, hk2, hk3⟩
        · exact .inl q
        · refine .inr ⟨k, hk, ?_, hk3⟩
          by_cases e : k = nx
          · rw [e, putF_eq]
          · rw [putF_ne _ e]; exact hk2
end

/-- columns change their rows along the path; column 'last' has none for now. -/
structure Aug (C : Nat → Nat → Int) (R N s : Nat) (u v ro0 ro bf : Nat → Int) (us : Nat → Bool) (rk : Nat → Nat) (last : Nat) : Prop where
  lt : last < N
  used : us last = true
  fair : ∀ r j, r ≤ s → j < N → C r j ≠ 4611686018427387904 → u r + v j ≤ C r j
  neg : ∀ j, j < N → v j ≤ 0 ∧ -(((s + 1 : Nat) : Int) * 140737488355328) ≤ v j
  un : ∀ r, s < r → r < N → u r = 0
  ux : ∀ r, R ≤ r → r < N → u r = 0
  pth : ∀ j, j < N → us j = true → ∃ r, Par N s ro0 bf us j r ∧ C r j ≠ 4611686018427387904 ∧ C r j = u r + v j ∧ ∀ b : Nat, bf j = b → rk b < rk j
  rng : ∀ j, j < N → j ≠ last → ro j = -1 ∨ ∃ r : Nat, r < s ∧ ro j = r
  inj : ∀ j k, j < N → k < N → j ≠ last → k ≠ last → ro j = ro k → 0 ≤ ro j → j = k
  sur : ∀ r : Nat, r < s → ∃ j, j < N ∧ j ≠ last ∧ ro j = r
  tig : ∀ (j r : Nat), j < N → j ≠ last → ro j = r → C r j ≠ 4611686018427387904 ∧ C r j = u r + v j
  fre : ∀ j, j < N → j ≠ last → ro j = -1 → v j = 0
  old : ∀ j, j < N → us j = true → rk j < rk last → ro j = ro0 j
theorem Dj2.aug {C : Nat → Nat → Int} {R K N s : Nat} {u0 v0 ro u v bf : Nat → Int} {us : Nat → Bool} {rk : Nat → Nat} {t nx : Nat} (hc : Cs C R K N) (hm : Mt C R N s u0 v0 ro) (hs : s < N) (h : Dj2 C N s u0 v0 ro u v bf us rk t) (hx : nx < N) (hux : us nx = true) (hr : ro nx = -1) : Aug C R N s u v ro ro bf us rk nx := by
  obtain ⟨f, hf, e1, e2, e3, e4, e5⟩ := hm.some hc hs
  have h1 := h.fair s f (Nat.le_refl _) hf e2
  have h2 := h.fre f hf e1
  have h3 := h.pos
  refine ⟨hx, hux, h.fair, ?_, h.un, ?_, h.pth, fun j hj _ => hm.rng j hj, fun j k hj hk _ _ => hm.inj j k hj hk, ?_, fun j r hj _ => h.tig j r hj, fun j hj _ => h.fre j hj, fun _ _ _ _ => rfl⟩
  · intro j hj
    have := h.dv j hj
    have := hm.neg j hj
    omega
  · intro r hR hr
    by_cases h5 : s < r
    · exact h.un r h5 hr
    · have h6 := e5 (by omega)
      by_cases h7 : r = s
      · rw [h7]; omega
      · have := h.du r (by omega)
        have := hm.ux r hR hr
        omega
  · intro r hr2
    obtain ⟨j, hj, e⟩ := hm.sur r hr2
    exact ⟨j, hj, fun q => by rw [q] at e; omega, e⟩
theorem Aug.step {C : Nat → Nat → Int} {R N s : Nat} {u v ro0 ro bf : Nat → Int} {us : Nat → Bool} {rk : Nat → Nat} {last : Nat} (h : Aug C R N s u v ro0 ro bf us rk last) {b : Nat} (hb : bf last = b) :
    b < N ∧ rk b < rk last ∧ Aug C R N s u v ro0 (putF ro last (ro b)) bf us rk b := by
  obtain ⟨r, h1, h2, h3, h4⟩ := h.pth last h.lt h.used
  have hrk := h4 b hb
  rcases h1 with ⟨e, _⟩ | ⟨b', h5, h6, h7, h8⟩
  · omega
  obtain rfl : b = b' := by omega
  have hne : b ≠ last := fun q => by rw [q] at hrk; omega
  have hrb : ro b = r := (h.old b h5 h7 hrk).trans h8
  refine ⟨h5, hrk, h5, h7, h.fair, h.neg, h.un, h.ux, h.pth, ?_, ?_, ?_, ?_, ?_, ?_⟩
  · intro j hj hjb
    by_cases e : j = last
    · rw [e, putF_eq]; exact h.rng b h5 hne
    · rw [putF_ne _ e]; exact h.rng j hj e
  · intro j k hj hk hjb hkb
    by_cases e1 : j = last <;> by_cases e2 : k = last
    · omega
    · rw [e1, putF_eq, putF_ne _ e2]
      intro q1 q2
      exact absurd (h.inj b k h5 hk hne e2 q1 q2).symm hkb
    · rw [e2, putF_eq, putF_ne _ e1]
      intro q1 q2
      exact absurd (h.inj j b hj h5 e1 hne q1 q2) hjb
    · rw [putF_ne _ e1, putF_ne _ e2]
      exact h.inj j k hj hk e1 e2
  · intro q hq
    obtain ⟨j, hj, e1, e2⟩ := h.sur q hq
    by_cases e : j = b
    · exact ⟨last, h.lt, fun q => hne q.symm, by rw [putF_eq, ← e]; exact e2⟩
    · exact ⟨j, hj, e, by rw [putF_ne _ e1]; exact e2⟩
  · intro j q hj hjb
    by_cases e : j = last
    · rw [e, putF_eq]
      intro e2
      obtain rfl : r = q := by omega
      exact ⟨h2, h3⟩
    · rw [putF_ne _ e]
      exact h.tig j q hj e
  · intro j hj hjb
    by_cases e : j = last
    · rw [e, putF_eq]
      intro e2
      omega
    · rw [putF_ne _ e]
      exact h.fre j hj e
  · intro j hj hu hlt
    have e : j ≠ last := fun q => by rw [q] at hlt; omega
    rw [putF_ne _ e]
    exact h.old j hj hu (by omega)
theorem Aug.done {C : Nat → Nat → Int} {R N s : Nat} {u v ro0 ro bf : Nat → Int} {us : Nat → Bool} {rk : Nat → Nat} {last : Nat} (h : Aug C R N s u v ro0 ro bf us rk last) (hb : bf last < 0) : Mt C R N (s + 1) u v (putF ro last (s : Int)) := by
  obtain ⟨r, h1, h2, h3, h4⟩ := h.pth last h.lt h.used
  have hr : r = s := by
    rcases h1 with ⟨_, e⟩ | ⟨b', h5, h6, _⟩
    · exact e
    · omega
  refine ⟨?_, ?_, ?_, ?_, ?_, ?_, h.neg, fun r h1 h2 => h.un r (by omega) h2, h.ux⟩
  · intro j hj
    by_cases e : j = last
    · rw [e, putF_eq]; exact .inr ⟨s, by omega, rfl⟩
    · rw [putF_ne _ e]
      rcases h.rng j hj e with h5 | ⟨r, h5, h6⟩
      · exact .inl h5
      · exact .inr ⟨r, by omega, h6⟩
  · intro j k hj hk
    by_cases e1 : j = last <;> by_cases e2 : k = last
    · intros; omega
    · rw [e1, putF_eq, putF_ne _ e2]
      intro q1 q2
      rcases h.rng k hk e2 with h5 | ⟨r, h5, h6⟩ <;> omega
    · rw [e2, putF_eq, putF_ne _ e1]
      intro q1 q2
      rcases h.rng j hj e1 with h5 | ⟨r, h5, h6⟩ <;> omega
    · rw [putF_ne _ e1, putF_ne _ e2]
      exact h.inj j k hj hk e1 e2
  · intro q hq
    by_cases e : q = s
    · exact ⟨last, h.lt, by rw [putF_eq, e]⟩
    · obtain ⟨j, hj, e1, e2⟩ := h.sur q (by omega)
      exact ⟨j, hj, by rw [putF_ne _ e1]; exact e2⟩
  · intro q j hq hj
    exact h.fair q j (by omega) hj
  · intro j q hj
    by_cases e : j = last
    · rw [e, putF_eq]
      intro e2
      obtain rfl : r = q := by omega
      exact ⟨h2, h3⟩
    · rw [putF_ne _ e]
      exact h.tig j q hj e
  · intro j hj
    by_cases e : j = last
    · rw [e, putF_eq]
      intro e2
      omega
    · rw [putF_ne _ e]
      exact h.fre j hj e
end
section
/-- row i and column j keep to the prices. -/
def Tg (C : Nat → Nat → Int) (u v : Nat → Int) (i j : Nat) : Prop := C i j ≠ 4611686018427387904 ∧ C i j = u i + v j
/-- every column has a row, at the prices; p j is the row of column j. -/
structure Pf (C : Nat → Nat → Int) (N : Nat) (u v : Nat → Int) (p : Nat → Nat) : Prop where
  inj : Inj p N N
  tig : ∀ j, j < N → Tg C u v (p j) j
theorem Mt.pf {C : Nat → Nat → Int} {R K N : Nat} {u v ro : Nat → Int} (_hc : Cs C R K N) (h : Mt C R N N u v ro) : ∃ p : Nat → Nat, (∀ j, j < N → ro j = p j) ∧ Pf C N u v p := by
  have hall : ∀ j, j < N → ∃ r : Nat, r < N ∧ ro j = r := by
    intro j hj
    refine (h.rng j hj).resolve_left fun e => ?_
    -- the rows below N have columns other than j
    have hx : ∀ r, r < N → ∃ k, k < N ∧ ro k = (r : Int) := h.sur
    have hi : Inj (fun r => if hr : r < N then (hx r hr).choose else 0) N N := by
      constructor
      · intro r hr
        show (if hr : r < N then (hx r hr).choose else 0) < N
        rw [dif_pos hr]
        exact (hx r hr).choose_spec.1
      · intro r q hr hq (e2 : (if hr : r < N then (hx r hr).choose else 0) = (if hq : q < N then (hx q hq).choose else 0))
        rw [dif_pos hr, dif_pos hq] at e2
        have h1 := (hx r hr).choose_spec.2
        have h2 := (hx q hq).choose_spec.2
        rw [e2] at h1
        omega
    obtain ⟨r, hr, e2⟩ := hi.onto hj
    have e2 : (if hr : r < N then (hx r hr).choose else 0) = j := e2
    rw [dif_pos hr] at e2
    have h1 := (hx r hr).choose_spec.2
    rw [e2, e] at h1
    omega
  refine ⟨fun j => (ro j).toNat, fun j hj => ?_, ⟨fun j hj => ?_, fun j k hj hk e => ?_⟩, fun j hj => ?_⟩
  · obtain ⟨r, hr, e⟩ := hall j hj
    show ro j = (((ro j).toNat : Nat) : Int)
    rw [e]; rfl
  · obtain ⟨r, hr, e⟩ := hall j hj
    show (ro j).toNat < N
    rw [e]; exact hr
  · obtain ⟨r, hr, e1⟩ := hall j hj
    obtain ⟨q, hq, e2⟩ := hall k hk
    have e : (ro j).toNat = (ro k).toNat := e
    exact h.inj j k hj hk (by omega) (by omega)
  · obtain ⟨r, hr, e⟩ := hall j hj
    show Tg C u v (ro j).toNat j
    rw [e]
    exact h.tig j r hj e

/-- the columns from which column 'home' can be freed: tw j is the column that the row of column j would take; Q are those that are not looked at. -/
structure Bf (C : Nat → Nat → Int) (N : Nat) (u v : Nat → Int) (p : Nat → Nat) (row home : Nat) (tw : Nat → Int) (rk : Nat → Nat) (t : Nat) : Prop where
  hom : tw home = -1
  rk0 : rk home = 0
  twr : ∀ j, j < N → tw j = -1 ∨ ∃ x : Nat, x < N ∧ tw j = x ∧ Tg C u v (p j) x ∧ row < p j ∧ (x = home ∨ 0 ≤ tw x) ∧ rk x < rk j
  top : ∀ j, j < N → 0 ≤ tw j → rk j ≤ t
/-- x is freed or can be. -/
def Zn (home : Nat) (tw : Nat → Int) (x : Nat) : Prop := x = home ∨ 0 ≤ tw x
theorem Bf.start {C : Nat → Nat → Int} {N : Nat} {u v : Nat → Int} {p : Nat → Nat} {row home : Nat} {tw : Nat → Int} (hh : home < N) (h : ∀ j, j < N → tw j = -1) : Bf C N u v p row home tw (fun _ => 0) 0 :=
  ⟨h home hh, rfl, fun j hj => .inl (h j hj), fun j hj q => by have := h j hj; omega⟩
/-- one more column. -/
theorem Bf.add {C : Nat → Nat → Int} {N : Nat} {u v : Nat → Int} {p : Nat → Nat} {row home : Nat} {tw : Nat → Int} {rk : Nat → Nat} {t : Nat} (h : Bf C N u v p row home tw rk t) {j x : Nat} (hj : j < N) (hx : x < N) (hzx : Zn home tw x) (hjh : j ≠ home) (hn : tw j < 0) (hr : row < p j) (ht : Tg C u v (p j) x) :
    Bf C N u v p row home (putF tw j (x : Int)) (putF rk j (t + 1)) (t + 1) := by
  have hjx : x ≠ j := by
    rintro rfl
    rcases hzx with e | e
    · exact hjh e
    · omega
  have hkeep : ∀ y, Zn home tw y → Zn home (putF tw j (x : Int)) y := by
    intro y hy
    by_cases e : y = j
    · right; rw [e, putF_eq]; omega
    · rcases hy with h1 | h1
      · exact .inl h1
      · right; rw [putF_ne _ e]; exact h1
  have hrx : rk x ≤ t := by
    rcases hzx with e | e
    · rw [e, h.rk0]; omega
    · exact h.top x hx e
  refine ⟨by rw [putF_ne _ (fun q => hjh q.symm)]; exact h.hom, by rw [putF_ne _ (fun q => hjh q.symm)]; exact h.rk0, ?_, ?_⟩
  · intro k hk
    by_cases e : k = j
    · right
      subst e
      refine ⟨x, hx, putF_eq _ _ _, ht, hr, hkeep x hzx, ?_⟩
      rw [putF_eq, putF_ne _ hjx]; omega
    · rcases h.twr k hk with h1 | ⟨y, h1, h2, h3, h4, h5, h6⟩
      · left; rw [putF_ne _ e]; exact h1
      · right
        refine ⟨y, h1, by rw [putF_ne _ e]; exact h2, h3, h4, hkeep y h5, ?_⟩
        have hyj : y ≠ j := by
          rintro rfl
          rcases h5 with e2 | e2
          · exact hjh e2
          · omega
        rw [putF_ne _ hyj, putF_ne _ e]; exact h6
  · intro k hk h0
    by_cases e : k = j
    · rw [e, putF_eq]; omega
    · rw [putF_ne _ e] at h0 ⊢
      have := h.top k hk h0
      omega

/-- column x has been looked at as far as column k. -/
def Look (C : Nat → Nat → Int) (u v : Nat → Int) (p : Nat → Nat) (row home : Nat) (tw : Nat → Int) (x k : Nat) : Prop := ∀ j, j < k → j ≠ home → row < p j → Tg C u v (p j) x → 0 ≤ tw j
theorem Look.put {C : Nat → Nat → Int} {u v : Nat → Int} {p : Nat → Nat} {row home : Nat} {tw : Nat → Int} {x k : Nat} (h : Look C u v p row home tw x k) (j y : Nat) : Look C u v p row home (putF tw j (y : Int)) x k := by
  intro i hi h1 h2 h3
  by_cases e : i = j
  · rw [e, putF_eq]; omega
  · rw [putF_ne _ e]; exact h i hi h1 h2 h3

/-- no matching at the prices that agrees on the rows below 'row' gives 'row' a column below k. -/
def NoLess (C : Nat → Nat → Int) (N : Nat) (u v : Nat → Int) (p : Nat → Nat) (row k : Nat) : Prop :=
  ∀ s : Nat → Nat, Inj s N N → (∀ i, i < N → Tg C u v i (s i)) → (∀ j, j < N → p j < row → s (p j) = j) → k ≤ s row
/-- the search is over: what 'row' cannot have. -/
theorem Bf.least {C : Nat → Nat → Int} {N : Nat} {u v : Nat → Int} {p : Nat → Nat} {row home : Nat} {tw : Nat → Int} {rk : Nat → Nat} {t : Nat} (hp : Pf C N u v p) (_h : Bf C N u v p row home tw rk t) (hrow : row < N) (hh : home < N) (hpr : p home = row)
    (hall : ∀ x, x < N → Zn home tw x → Look C u v p row home tw x N) {k : Nat} (hk : k ≤ home) (hno : ∀ j, j < k → 0 ≤ tw j → ¬ Tg C u v row j) : NoLess C N u v p row k := by
  intro s hs hst hag
  refine Nat.le_of_not_lt fun hlt => ?_
  have hnz : ¬ Zn home tw (s row) := by
    rintro (e | e)
    · omega
    · exact hno _ hlt e (hst row hrow)
  -- the columns that cannot be freed go to such columns
  obtain ⟨x, hx, hzx, e⟩ := Inj.keeps (f := fun j => s (p j)) (n := N) (fun j => ¬ Zn home tw j) (fun i hi _ => hs.lt _ (hp.inj.lt i hi)) (by
    intro j hj hz (hz2 : Zn home tw (s (p j)))
    have hjh : j ≠ home := fun q => hz (.inl q)
    rcases Nat.lt_trichotomy (p j) row with h1 | h1 | h1
    · rw [hag j hj h1] at hz2
      exact hz hz2
    · exact hjh (hp.inj.inj j home hj hh (h1.trans hpr.symm))
    · exact hz (.inr (hall _ (hs.lt _ (hp.inj.lt j hj)) hz2 j hj hjh h1 (hst _ (hp.inj.lt j hj))))) (fun i j hi hj _ _ e => hp.inj.inj i j hi hj (hs.inj _ _ (hp.inj.lt i hi) (hp.inj.lt j hj) e)) (hs.lt _ hrow) hnz
  have e2 : p x = row := hs.inj _ _ (hp.inj.lt x hx) hrow e
  have : x = home := hp.inj.inj x home hx hh (e2.trans hpr.symm)
  exact hzx (.inl this)

/-- the rows change their columns: 'r' is in hand, 'c' is the column that it takes; column 'home' still holds its old row. -/
structure Sh (C : Nat → Nat → Int) (N : Nat) (u v : Nat → Int) (p : Nat → Nat) (row home j0 : Nat) (rk : Nat → Nat) (q : Nat → Nat) (r : Nat) (c : Nat) : Prop where
  lt : c < N
  rlt : r < N
  qh : q home = row
  inj : Inj (putF q home r) N N
  tig : ∀ j, j < N → j ≠ home → Tg C u v (q j) j
  rc : Tg C u v r c
  low : ∀ j, j < N → p j < row → q j = p j
  rge : row ≤ r
  old : ∀ j, j < N → rk j ≤ rk c → q j = p j
  j0 : (c = j0 ∧ r = row) ∨ (q j0 = row ∧ rk c < rk j0)
/-- what a shift brings about. -/
structure Sd (C : Nat → Nat → Int) (N : Nat) (u v : Nat → Int) (p : Nat → Nat) (row j0 : Nat) (q : Nat → Nat) : Prop where
  pf : Pf C N u v q
  low : ∀ j, j < N → p j < row → q j = p j
  at_ : q j0 = row
section
variable {C : Nat → Nat → Int} {N : Nat} {u v : Nat → Int} {p : Nat → Nat} {row home j0 : Nat} {tw : Nat → Int} {rk : Nat → Nat} {t : Nat} {q : Nat → Nat} {r c : Nat}
theorem Sh.start (hp : Pf C N u v p) (_h : Bf C N u v p row home tw rk t) (hrow : row < N) (_hh : home < N) (hpr : p home = row) (hj : j0 < N) (ht : Tg C u v row j0) : Sh C N u v p row home j0 rk p row j0 := by
  refine ⟨hj, hrow, hpr, ?_, fun j hj _ => hp.tig j hj, ht, fun _ _ _ => rfl, Nat.le_refl _, fun _ _ _ => rfl, .inl ⟨rfl, rfl⟩⟩
  have : putF p home row = p := by
    funext j
    by_cases e : j = home
    · rw [e, putF_eq, hpr]
    · rw [putF_ne _ e]
  rw [this]
  exact hp.inj
theorem inj_swap {f : Nat → Nat} {n a b : Nat} (h : Inj f n n) (ha : a < n) (hb : b < n) (_hab : a ≠ b) : Inj (putF (putF f a (f b)) b (f a)) n n := by
  have hv : ∀ j, j < n → ∃ k, k < n ∧ putF (putF f a (f b)) b (f a) j = f k ∧ ((j = a ∧ k = b) ∨ (j = b ∧ k = a) ∨ (j ≠ a ∧ j ≠ b ∧ k = j)) := by
    intro j hj
    by_cases e1 : j = b
    · exact ⟨a, ha, by rw [e1, putF_eq], .inr (.inl ⟨e1, rfl⟩)⟩
    · rw [putF_ne _ e1]
      by_cases e2 : j = a
      · exact ⟨b, hb, by rw [e2, putF_eq], .inl ⟨e2, rfl⟩⟩
      · exact ⟨j, hj, by rw [putF_ne _ e2], .inr (.inr ⟨e2, e1, rfl⟩)⟩
  constructor
  · intro i hi
    obtain ⟨k, hk, e, _⟩ := hv i hi
    rw [e]; exact h.lt k hk
  · intro i j hi hj e
    obtain ⟨k, hk, e1, h1⟩ := hv i hi
    obtain ⟨l, hl, e2, h2⟩ := hv j hj
    rw [e1, e2] at e
    have := h.inj k l hk hl e
    omega
/-- a column on the way. -/
theorem Sh.step (_hp : Pf C N u v p) (h : Bf C N u v p row home tw rk t) (hh : home < N) (hs : Sh C N u v p row home j0 rk q r c) {x : Nat} (hx : tw c = x) : x < N ∧ rk x < rk c ∧ Sh C N u v p row home j0 rk (putF q c r) (q c) x := by
  rcases h.twr c hs.lt with e | ⟨y, h1, h2, h3, h4, h5, h6⟩
  · omega
  obtain rfl : x = y := by omega
  have hch : c ≠ home := by
    rintro rfl
    have := h.hom
    omega
  have hqc : q c = p c := hs.old c hs.lt (Nat.le_refl _)
  refine ⟨h1, h6, h1, ?_, ?_, ?_, ?_, ?_, ?_, ?_, ?_, ?_⟩
  · have := hs.inj.lt c hs.lt
    rw [putF_ne _ hch] at this
    exact this
  · rw [putF_ne _ (fun e => hch e.symm)]; exact hs.qh
  · have := inj_swap hs.inj hs.lt hh hch
    rw [putF_eq, putF_ne _ hch] at this
    have e : putF (putF (putF q home r) c r) home (q c) = putF (putF q c r) home (q c) := by
      funext j
      by_cases e1 : j = home
      · rw [e1, putF_eq, putF_eq]
      · rw [putF_ne _ e1, putF_ne _ e1]
        by_cases e2 : j = c
        · rw [e2, putF_eq, putF_eq]
        · rw [putF_ne _ e2, putF_ne _ e2, putF_ne _ e1]
    rw [e] at this
    exact this
  · intro j hj hjh
    by_cases e : j = c
    · rw [e, putF_eq]; exact hs.rc
    · rw [putF_ne _ e]; exact hs.tig j hj hjh
  · rw [hqc]; exact h3
  · intro j hj hlt
    by_cases e : j = c
    · rw [e] at hlt; omega
    · rw [putF_ne _ e]; exact hs.low j hj hlt
  · rw [hqc]; omega
  · intro j hj hle
    have e : j ≠ c := fun e => by rw [e] at hle; omega
    rw [putF_ne _ e]
    exact hs.old j hj (by omega)
  · right
    rcases hs.j0 with ⟨e1, e2⟩ | ⟨e1, e2⟩
    · rw [← e1, putF_eq]; exact ⟨e2, h6⟩
    · rw [putF_ne _ (fun e => by rw [e] at e2; omega)]
      exact ⟨e1, by omega⟩
/-- the last column is home. -/
theorem Sh.done (_hp : Pf C N u v p) (h : Bf C N u v p row home tw rk t) (hh : home < N) (hpr : p home = row) (hj0 : j0 ≠ home) (hz : Zn home tw c) (hs : Sh C N u v p row home j0 rk q r c) (hx : tw c < 0) : Sd C N u v p row j0 (putF q c r) := by
  have hc : c = home := by
    rcases hz with e | e
    · exact e
    · omega
  subst hc
  refine ⟨⟨hs.inj, ?_⟩, ?_, ?_⟩
  · intro j hj
    by_cases e : j = c
    · rw [e, putF_eq]; exact hs.rc
    · rw [putF_ne _ e]; exact hs.tig j hj e
  · intro j hj hlt
    by_cases e : j = c
    · rw [e] at hlt; omega
    · rw [putF_ne _ e]; exact hs.low j hj hlt
  · rcases hs.j0 with ⟨e1, _⟩ | ⟨e1, e2⟩
    · exact absurd e1.symm hj0
    · rw [putF_ne _ hj0]; exact e1
end
/-- the rows below i have their first columns. -/
def First (C : Nat → Nat → Int) (N : Nat) (u v : Nat → Int) (p : Nat → Nat) (i : Nat) : Prop := ∀ r, r < i → ∀ j, j < N → p j = r → NoLess C N u v p r j
theorem NoLess.move {C : Nat → Nat → Int} {N : Nat} {u v : Nat → Int} {p q : Nat → Nat} {row k : Nat} (h : NoLess C N u v p row k) (hp : ∀ j, j < N → p j < row → q j = p j) : NoLess C N u v q row k := by
  intro s hs hst hag
  refine h s hs hst fun j hj hlt => ?_
  have e := hp j hj hlt
  have := hag j hj (by omega)
  rw [e] at this
  exact this
/-- a shift keeps what the rows below have, and gives the row its first column. -/
theorem First.shift {C : Nat → Nat → Int} {N : Nat} {u v : Nat → Int} {p q : Nat → Nat} {row j0 : Nat} (hp : Pf C N u v p) (h : First C N u v p row) (hj0 : j0 < N) (hrow : row < N) (hn : NoLess C N u v p row j0) (hs : Sd C N u v p row j0 q) : First C N u v q (row + 1) := by
  intro r hr j hj e
  by_cases e2 : r = row
  · subst e2
    have : j = j0 := hs.pf.inj.inj j j0 hj hj0 (e.trans hs.at_.symm)
    subst this
    exact hn.move hs.low
  · obtain ⟨k, hk, e3⟩ := hp.inj.onto (show r < N by omega)
    have hk2 : q k = r := (hs.low k hk (by omega)).trans e3
    have : j = k := hs.pf.inj.inj j k hj hk (e.trans hk2.symm)
    subst this
    exact (h r (by omega) j hj e3).move fun i hi hlt => hs.low i hi (by omega)
/-- the row stays where it is. -/
theorem First.stay {C : Nat → Nat → Int} {N : Nat} {u v : Nat → Int} {p : Nat → Nat} {row home : Nat} (hp : Pf C N u v p) (h : First C N u v p row) (hh : home < N) (hpr : p home = row) (hn : NoLess C N u v p row home) : First C N u v p (row + 1) := by
  intro r hr j hj e
  by_cases e2 : r = row
  · subst e2
    have : j = home := hp.inj.inj j home hj hh (e.trans hpr.symm)
    subst this
    exact hn
  · exact h r (by omega) j hj e
end
end Go.Proofs.YtimijjhdgihobaaGreatDoor
