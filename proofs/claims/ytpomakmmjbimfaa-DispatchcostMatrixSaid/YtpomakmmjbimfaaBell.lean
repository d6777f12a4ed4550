/-
  Plain: n rounds over all edges (the reference's way) give the least lengths.
-/
import Derived.Test.YtpomakmmjbimfaaDist
namespace Go.Proofs.Ytpomakmmjbimfaa

structure Low (n : Nat) (S : Nat → Prop) (E : List EdgeT) (W D : List Int) : Prop where
  len : D.length = n
  way : ∀ (v : Nat) (d : Int), D[v]? = some d → d ≠ 4611686018427387904 → Way S E W v d
  small : ∀ (v : Nat) (d : Int), D[v]? = some d → d ≠ 4611686018427387904 → 0 ≤ d ∧ d ≤ (cntF D : Int) * 1048576

/-- edge i relaxed, where that is something. -/
def relax1 (E : List EdgeT) (W D : List Int) (i : Nat) : List Int :=
  match E[i]?, W[i]? with
  | some e, some x => if x < 4611686018427387904 ∧ D.getD e.frm.toNat 0 < 4611686018427387904 ∧ D.getD e.frm.toNat 0 + x < D.getD e.to.toNat 0 then D.set e.to.toNat (D.getD e.frm.toNat 0 + x) else D
  | _, _ => D
def relaxK (E : List EdgeT) (W D : List Int) (k : Nat) : List Int := (List.range k).foldl (relax1 E W) D
def roundsK (E : List EdgeT) (W D : List Int) : Nat → List Int
  | 0 => D
  | r + 1 => relaxK E W (roundsK E W D r) E.length
theorem relaxK_succ (E : List EdgeT) (W D : List Int) (k : Nat) : relaxK E W D (k + 1) = relax1 E W (relaxK E W D k) k := by simp [relaxK, List.range_succ]

section
variable {n : Nat} {S : Nat → Prop} {E : List EdgeT} {W D : List Int}

theorem Low.set (h : Low n S E W D) (hn : n ≤ 256) {t : Nat} {d0 d : Int} (ht : D[t]? = some d0) (hlt : d < d0) (h0 : 0 ≤ d) (hb : d ≤ ((cntF D : Int) + 1) * 1048576) (hw : Way S E W t d) : Low n S E W (D.set t d) := by
  have htl := (List.getElem?_eq_some_iff.1 ht).1
  have hlen := h.len
  have hc := cntF_le D
  have hd : d ≠ 4611686018427387904 := by omega
  have hset := cntF_set (D := D) ht hd
  have hge : cntF D ≤ cntF (D.set t d) := by rw [hset]; split <;> omega
  have hself : (D.set t d)[t]? = some d := by rw [List.getElem?_set_self htl]
  have hne : ∀ v, t ≠ v → (D.set t d)[v]? = D[v]? := fun v c => List.getElem?_set_ne c
  have hdc : d ≤ (cntF (D.set t d) : Int) * 1048576 := by
    rw [hset]
    split
    · push_cast; exact hb
    · have := (h.small t d0 ht (by assumption)).2
      omega
  refine ⟨by rw [List.length_set]; exact hlen, fun v e he hne' => ?_, fun v e he hne' => ?_⟩
  · by_cases c : t = v
    · subst c
      rw [hself] at he
      cases he
      exact hw
    · rw [hne v c] at he
      exact h.way v e he hne'
  · by_cases c : t = v
    · subst c
      rw [hself] at he
      cases he
      exact ⟨h0, hdc⟩
    · rw [hne v c] at he
      have := h.small v e he hne'
      omega

theorem Low.le_inf (h : Low n S E W D) (hn : n ≤ 256) {v : Nat} {d : Int} (hd : D[v]? = some d) : d ≤ 4611686018427387904 ∧ 0 ≤ d ∧ (d ≠ 4611686018427387904 → d ≤ 268435456) := by
  have := cntF_le D
  have := h.len
  by_cases c : d = 4611686018427387904
  · omega
  · have := h.small v d hd c
    omega

theorem relax1_ok (hn : n ≤ 256) (hW : okW W) (hE : ∀ e ∈ E, 0 ≤ e.frm ∧ e.frm < n ∧ 0 ≤ e.to ∧ e.to < n) (h : Low n S E W D) (i : Nat) :
    Low n S E W (relax1 E W D i) ∧ Down D (relax1 E W D i) ∧ ∀ (u v : Nat) (x d : Int), usable E W i u v x → D[u]? = some d → d ≠ 4611686018427387904 → ∃ d', (relax1 E W D i)[v]? = some d' ∧ d' ≤ d + x := by
  unfold relax1
  cases hEi : E[i]? with
  | none => exact ⟨h, Down.refl _, fun u v x d ⟨e, h1, _⟩ => by rw [hEi] at h1; cases h1⟩
  | some e =>
    cases hWi : W[i]? with
    | none => exact ⟨h, Down.refl _, fun u v x d ⟨e, _, _, _, h1, _⟩ => by rw [hWi] at h1; cases h1⟩
    | some x =>
      obtain ⟨f0, f1, t0, t1⟩ := hE e (List.mem_of_getElem? hEi)
      have hlen := h.len
      obtain ⟨df, hdf⟩ : ∃ df, D[e.frm.toNat]? = some df := ⟨D[e.frm.toNat]'(by omega), by simp⟩
      obtain ⟨dt, hdt⟩ : ∃ dt, D[e.to.toNat]? = some dt := ⟨D[e.to.toNat]'(by omega), by simp⟩
      have gf : D.getD e.frm.toNat 0 = df := by rw [List.getD_eq_getElem?_getD, hdf]; rfl
      have gt : D.getD e.to.toNat 0 = dt := by rw [List.getD_eq_getElem?_getD, hdt]; rfl
      simp only
      rw [gf, gt]
      have key : ∀ (u v : Nat) (x' d : Int), usable E W i u v x' → D[u]? = some d → u = e.frm.toNat ∧ v = e.to.toNat ∧ x' = x ∧ d = df ∧ x ≠ 4611686018427387904 := fun u v x' d ⟨e', h1, h2, h3, h4, h5⟩ hd => by
        rw [hEi] at h1
        cases h1
        rw [hWi] at h4
        cases h4
        have hu : u = e.frm.toNat := by omega
        subst hu
        rw [hdf] at hd
        cases hd
        exact ⟨rfl, by omega, rfl, rfl, h5⟩
      have bf := h.le_inf hn hdf
      have bt := h.le_inf hn hdt
      have hc := cntF_le D
      split
      · rename_i hc'
        obtain ⟨c1, c2, c3⟩ := hc'
        have hx := hW i x hWi (by omega)
        have hsm := h.small _ _ hdf (by omega)
        have hw : Way S E W e.to.toNat (df + x) := Way.step (h.way _ _ hdf (by omega)) ⟨e, hEi, by omega, by omega, hWi, by omega⟩
        refine ⟨h.set hn hdt c3 (by omega) (by omega) hw, down_set hdt c3, fun u v x' d hu hd hne => ?_⟩
        obtain ⟨rfl, rfl, rfl, rfl, _⟩ := key u v x' d hu hd
        exact ⟨_, List.getElem?_set_self (List.getElem?_eq_some_iff.1 hdt).1, Int.le_refl _⟩
      · rename_i hc'
        refine ⟨h, Down.refl _, fun u v x' d hu hd hne => ?_⟩
        obtain ⟨rfl, rfl, rfl, rfl, hx⟩ := key u v x' d hu hd
        have := hW i _ hWi hx
        refine ⟨dt, hdt, ?_⟩
        by_cases c : d + x' < dt
        · exact absurd ⟨by omega, by omega, c⟩ hc'
        · omega

theorem relaxK_ok (hn : n ≤ 256) (hW : okW W) (hE : ∀ e ∈ E, 0 ≤ e.frm ∧ e.frm < n ∧ 0 ≤ e.to ∧ e.to < n) (h : Low n S E W D) (k : Nat) :
    Low n S E W (relaxK E W D k) ∧ Down D (relaxK E W D k) ∧ ∀ (i u v : Nat) (x d : Int), i < k → usable E W i u v x → D[u]? = some d → d ≠ 4611686018427387904 → ∃ d', (relaxK E W D k)[v]? = some d' ∧ d' ≤ d + x := by
  induction k with
  | zero => exact ⟨h, Down.refl _, fun i u v x d hi => absurd hi (by omega)⟩
  | succ k ih =>
    obtain ⟨h1, h2, h3⟩ := ih
    obtain ⟨g1, g2, g3⟩ := relax1_ok hn hW hE h1 k
    rw [relaxK_succ]
    refine ⟨g1, h2.trans g2, fun i u v x d hi hu hd hne => ?_⟩
    by_cases c : i < k
    · obtain ⟨d', a1, a2⟩ := h3 i u v x d c hu hd hne
      obtain ⟨d2, b1, b2⟩ := g2 v d' a1
      exact ⟨d2, b1, by omega⟩
    · obtain rfl : i = k := by omega
      obtain ⟨d1, a1, a2⟩ := h2 u d hd
      have b1 := h1.le_inf hn a1
      have b2 := h.le_inf hn hd
      obtain ⟨d2, c1, c2⟩ := g3 u v x d1 hu a1 (by have := b2.2.2 hne; omega)
      exact ⟨d2, c1, by omega⟩

theorem roundsK_ok (hn : n ≤ 256) (hW : okW W) (hE : ∀ e ∈ E, 0 ≤ e.frm ∧ e.frm < n ∧ 0 ≤ e.to ∧ e.to < n) (h : Low n S E W D) (r : Nat) : Low n S E W (roundsK E W D r) ∧ Down D (roundsK E W D r) := by
  induction r with
  | zero => exact ⟨h, Down.refl _⟩
  | succ r ih =>
    obtain ⟨h1, h2, _⟩ := relaxK_ok hn hW hE ih.1 E.length
    exact ⟨h1, ih.2.trans h2⟩

/-- the nodes whose value is not yet the least one. -/
def bad (n : Nat) (D Ds : List Int) : List Nat := (List.range n).filter (fun v => decide (D[v]? ≠ Ds[v]?))
theorem mem_bad {Ds : List Int} {v : Nat} : v ∈ bad n D Ds ↔ v < n ∧ D[v]? ≠ Ds[v]? := by simp [bad]
theorem filter_le {p q : Nat → Bool} : ∀ (l : List Nat), (∀ u ∈ l, q u = true → p u = true) → (l.filter q).length ≤ (l.filter p).length
  | [], _ => by simp
  | a :: l, h => by
    have ih := filter_le (p := p) (q := q) l (fun u hu => h u (List.mem_cons_of_mem _ hu))
    have ha := h a (by simp)
    rw [List.filter_cons, List.filter_cons]
    cases hq : q a
    · cases hp : p a <;> simp <;> omega
    · rw [ha hq]
      simp
      omega
theorem filter_lt {p q : Nat → Bool} : ∀ (l : List Nat) {v : Nat}, (∀ u ∈ l, q u = true → p u = true) → v ∈ l → p v = true → q v = false → (l.filter q).length < (l.filter p).length
  | [], v, _, hv, _, _ => by simp at hv
  | a :: l, v, h, hv, hp, hq => by
    have h' : ∀ u ∈ l, q u = true → p u = true := fun u hu => h u (List.mem_cons_of_mem _ hu)
    rcases List.mem_cons.1 hv with rfl | hv
    · have := filter_le l h'
      rw [List.filter_cons, List.filter_cons, hp, hq]
      simp
      omega
    · have ih := filter_lt l h' hv hp hq
      have ha := h a (by simp)
      rw [List.filter_cons, List.filter_cons]
      cases hqa : q a
      · cases hpa : p a <;> simp <;> omega
      · rw [ha hqa]
        simp
        omega
theorem exists_min (f : Nat → Int) : ∀ l : List Nat, l ≠ [] → ∃ v ∈ l, ∀ u ∈ l, f v ≤ f u
  | [], h => absurd rfl h
  | [a], _ => ⟨a, by simp, by simp⟩
  | a :: b :: l, _ => by
    obtain ⟨v, h1, h2⟩ := exists_min f (b :: l) (by simp)
    by_cases c : f a ≤ f v
    · refine ⟨a, by simp, fun u hu => ?_⟩
      rcases List.mem_cons.1 hu with rfl | hu
      · exact Int.le_refl _
      · have := h2 u hu
        omega
    · refine ⟨v, List.mem_cons_of_mem _ h1, fun u hu => ?_⟩
      rcases List.mem_cons.1 hu with rfl | hu
      · omega
      · exact h2 u hu

theorem Low.ge (h : Low n S E W D) (hW : okW W) {Ds : List Int} (hf : Fin35 n S E W Ds) {v : Nat} {d e : Int} (hd : D[v]? = some d) (he : Ds[v]? = some e) : e ≤ d := by
  by_cases c : d = 4611686018427387904
  · by_cases c' : e = 4611686018427387904
    · omega
    · have := hf.small v e he c'
      omega
  · obtain ⟨d', h1, _, h3⟩ := hf.least hW (h.way v d hd c)
    rw [he] at h1
    cases h1
    exact h3

theorem bad_drops (hn : n ≤ 256) (hW : okW W) (hE : ∀ e ∈ E, 0 ≤ e.frm ∧ e.frm < n ∧ 0 ≤ e.to ∧ e.to < n) (h : Low n S E W D) {Ds : List Int} (hf : Fin35 n S E W Ds) (hs : ∀ s : Nat, S s → D[s]? = some 0) (hb : bad n D Ds ≠ []) :
    (bad n (relaxK E W D E.length) Ds).length < (bad n D Ds).length := by
  obtain ⟨h1, h2, h3⟩ := relaxK_ok hn hW hE h E.length
  have hlen := h.len
  have hfl := hf.len
  have hget : ∀ {L : List Int} {v : Nat}, L.length = n → v < n → ∃ d, L[v]? = some d := fun {L} {v} e hv => ⟨L[v]'(by omega), by simp⟩
  obtain ⟨v, hv, hmin⟩ := exists_min (fun v => Ds.getD v 0) _ hb
  obtain ⟨hvn, hvd⟩ := mem_bad.1 hv
  obtain ⟨d, hd⟩ := hget hlen hvn
  obtain ⟨e, he⟩ := hget hfl hvn
  have hge := h.ge hW hf hd he
  have hne : d ≠ e := fun c => hvd (by rw [hd, he, c])
  have hdi := h.le_inf hn hd
  have hei : e ≠ 4611686018427387904 := by omega
  have hsub : ∀ u, u ∈ bad n (relaxK E W D E.length) Ds → u ∈ bad n D Ds := fun u hu => by
    obtain ⟨hun, hud⟩ := mem_bad.1 hu
    refine mem_bad.2 ⟨hun, fun c => hud ?_⟩
    obtain ⟨d0, hd0⟩ := hget hlen hun
    obtain ⟨d1, hd1, hd2⟩ := h2 u d0 hd0
    rw [c] at hd0
    have := h1.ge hW hf hd1 hd0
    rw [hd1, hd0]
    congr 1
    omega
  have hvx : v ∉ bad n (relaxK E W D E.length) Ds := by
    intro hvb
    obtain ⟨_, hvd'⟩ := mem_bad.1 hvb
    have hw := hf.way v e he hei
    cases hw with
    | src hs' =>
      have := hs v hs'
      rw [hd] at this
      cases this
      have := hf.small v 0 he (by decide)
      have := hf.src v hs'
      omega
    | @step u _ i d1 x hw hu =>
      obtain ⟨d', g1, g2, g3⟩ := hf.least hW hw
      obtain ⟨e', k1, k2⟩ := hf.closed _ _ _ _ _ hu g1 g2
      rw [he] at k1
      cases k1
      have hx : 1 ≤ x := by
        obtain ⟨_, _, _, _, q1, q2⟩ := hu
        exact (hW _ _ q1 q2).1
      have hun : u < n := by have := (List.getElem?_eq_some_iff.1 g1).1; omega
      have hug : D[u]? = Ds[u]? := by
        by_cases c : D[u]? = Ds[u]?
        · exact c
        · have hm := hmin u (mem_bad.2 ⟨hun, c⟩)
          rw [List.getD_eq_getElem?_getD, List.getD_eq_getElem?_getD, he, g1] at hm
          simp only [Option.getD_some] at hm
          omega
      rw [g1] at hug
      obtain ⟨_, hEi, _⟩ := id hu
      obtain ⟨d2, r1, r2⟩ := h3 i u v x d' (List.getElem?_eq_some_iff.1 hEi).1 hu hug g2
      have := h1.ge hW hf r1 he
      exact hvd' (by rw [r1, he]; congr 1; omega)
  refine filter_lt (List.range n) (fun u hu hq => ?_) (List.mem_range.2 hvn) (by simpa using hvd) ?_
  · have := (mem_bad.1 (hsub u (mem_bad.2 ⟨List.mem_range.1 hu, by simpa using hq⟩))).2
    simpa using this
  · by_cases c : (relaxK E W D E.length)[v]? = Ds[v]?
    · simp [c]
    · exact absurd (mem_bad.2 ⟨hvn, c⟩) hvx

theorem rounds_bad (hn : n ≤ 256) (hW : okW W) (hE : ∀ e ∈ E, 0 ≤ e.frm ∧ e.frm < n ∧ 0 ≤ e.to ∧ e.to < n) (h : Low n S E W D) {Ds : List Int} (hf : Fin35 n S E W Ds) (hs : ∀ s : Nat, S s → D[s]? = some 0) (r : Nat) :
    (bad n (roundsK E W D r) Ds).length + min r n ≤ n := by
  induction r with
  | zero =>
    have : (bad n D Ds).length ≤ (List.range n).length := List.length_filter_le _ _
    simpa [roundsK] using this
  | succ r ih =>
    obtain ⟨g1, g2⟩ := roundsK_ok hn hW hE h r
    have hs' : ∀ s : Nat, S s → (roundsK E W D r)[s]? = some 0 := fun s hS => by
      obtain ⟨d', q1, q2⟩ := g2 s 0 (hs s hS)
      have := (g1.le_inf hn q1).2.1
      rw [q1]
      congr 1
      omega
    by_cases c : bad n (roundsK E W D r) Ds = []
    · have hsub : bad n (roundsK E W D (r + 1)) Ds = [] := by
        obtain ⟨k1, k2, _⟩ := relaxK_ok hn hW hE g1 E.length
        refine List.eq_nil_iff_forall_not_mem.2 fun u hu => ?_
        obtain ⟨hun, hud⟩ := mem_bad.1 hu
        have hl := g1.len
        obtain ⟨d0, hd0⟩ : ∃ d, (roundsK E W D r)[u]? = some d := ⟨(roundsK E W D r)[u]'(by omega), by simp⟩
        have hc : (roundsK E W D r)[u]? = Ds[u]? := by
          by_cases q : (roundsK E W D r)[u]? = Ds[u]?
          · exact q
          · have := mem_bad.2 ⟨hun, q⟩
            rw [c] at this
            exact absurd this (by simp)
        obtain ⟨d1, hd1, hd2⟩ := k2 u d0 hd0
        rw [hc] at hd0
        have := k1.ge hW hf hd1 hd0
        apply hud
        show (relaxK E W (roundsK E W D r) E.length)[u]? = _
        rw [hd1, hd0]
        congr 1
        omega
      rw [hsub]
      simp only [List.length_nil]
      omega
    · have := bad_drops hn hW hE g1 hf hs' c
      show (bad n (relaxK E W (roundsK E W D r) E.length) Ds).length + _ ≤ n
      omega

theorem rounds_done (hn : n ≤ 256) (hW : okW W) (hE : ∀ e ∈ E, 0 ≤ e.frm ∧ e.frm < n ∧ 0 ≤ e.to ∧ e.to < n) (h : Low n S E W D) {Ds : List Int} (hf : Fin35 n S E W Ds) (hs : ∀ s : Nat, S s → D[s]? = some 0) : roundsK E W D n = Ds := by
  have hb := rounds_bad hn hW hE h hf hs n
  have h0 : bad n (roundsK E W D n) Ds = [] := List.length_eq_zero_iff.1 (by omega)
  refine List.ext_getElem? fun v => ?_
  by_cases hv : v < n
  · by_cases q : (roundsK E W D n)[v]? = Ds[v]?
    · exact q
    · have := mem_bad.2 ⟨hv, q⟩
      rw [h0] at this
      exact absurd this (by simp)
  · rw [List.getElem?_eq_none (by rw [(roundsK_ok hn hW hE h n).1.len]; omega), List.getElem?_eq_none (by rw [hf.len]; omega)]
end
end Go.Proofs.Ytpomakmmjbimfaa
