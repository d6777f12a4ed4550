/-
  Plain: shortest distances by relaxing edges in any order. No program in sight.
-/
import Derived.Test.YtpomakmmjbimfaaTwoRows
namespace Go.Proofs.Ytpomakmmjbimfaa

/-- edge i goes from u to v and may be used at x. -/
def usable (E : List EdgeT) (W : List Int) (i u v : Nat) (x : Int) : Prop := ∃ e, E[i]? = some e ∧ e.frm = (u : Int) ∧ e.to = (v : Int) ∧ W[i]? = some x ∧ x ≠ 4611686018427387904
inductive Way (S : Nat → Prop) (E : List EdgeT) (W : List Int) : Nat → Int → Prop
  | src {s : Nat} : S s → Way S E W s 0
  | step {u v i : Nat} {d x : Int} : Way S E W u d → usable E W i u v x → Way S E W v (d + x)

/-- D holds the least lengths. -/
structure Fin35 (n : Nat) (S : Nat → Prop) (E : List EdgeT) (W D : List Int) : Prop where
  len : D.length = n
  way : ∀ (v : Nat) (d : Int), D[v]? = some d → d ≠ 4611686018427387904 → Way S E W v d
  src : ∀ s : Nat, S s → D[s]? = some 0
  closed : ∀ (i u v : Nat) (x d : Int), usable E W i u v x → D[u]? = some d → d ≠ 4611686018427387904 → ∃ d', D[v]? = some d' ∧ d' ≤ d + x
  small : ∀ (v : Nat) (d : Int), D[v]? = some d → d ≠ 4611686018427387904 → 0 ≤ d ∧ d ≤ 1099511627776

def okW (W : List Int) : Prop := ∀ (i : Nat) (x : Int), W[i]? = some x → x ≠ 4611686018427387904 → 1 ≤ x ∧ x ≤ 1048576

theorem Fin35.least {n : Nat} {S : Nat → Prop} {E : List EdgeT} {W D : List Int} (hW : okW W) (h : Fin35 n S E W D) {v : Nat} {d : Int} (hw : Way S E W v d) : ∃ d', D[v]? = some d' ∧ d' ≠ 4611686018427387904 ∧ d' ≤ d := by
  induction hw with
  | src hs => exact ⟨0, h.src _ hs, by decide, Int.le_refl _⟩
  | @step u v i d x hw hu ih =>
    obtain ⟨d1, h1, h2, h3⟩ := ih
    obtain ⟨d2, h4, h5⟩ := h.closed _ _ _ _ _ hu h1 h2
    obtain ⟨e, _, _, _, k1, k2⟩ := hu
    have := hW _ _ k1 k2
    have := h.small _ _ h1 h2
    exact ⟨d2, h4, by omega, by omega⟩

theorem Fin35.unique {n : Nat} {S : Nat → Prop} {E : List EdgeT} {W D D' : List Int} (hW : okW W) (h : Fin35 n S E W D) (h' : Fin35 n S E W D') : D = D' := by
  refine List.ext_getElem? fun v => ?_
  by_cases hv : v < n
  · obtain ⟨d, hd⟩ : ∃ d, D[v]? = some d := ⟨D[v]'(by rw [h.len]; exact hv), by simp⟩
    obtain ⟨d', hd'⟩ : ∃ d', D'[v]? = some d' := ⟨D'[v]'(by rw [h'.len]; exact hv), by simp⟩
    rw [hd, hd']
    congr 1
    by_cases c : d = 4611686018427387904
    · by_cases c' : d' = 4611686018427387904
      · omega
      · obtain ⟨a, b1, b2, _⟩ := h.least hW (h'.way _ _ hd' c')
        rw [hd] at b1
        cases b1
        exact absurd c b2
    · obtain ⟨a, b1, b2, b3⟩ := h'.least hW (h.way _ _ hd c)
      rw [hd'] at b1
      cases b1
      obtain ⟨a, b1, _, b4⟩ := h.least hW (h'.way _ _ hd' b2)
      rw [hd] at b1
      cases b1
      omega
  · rw [List.getElem?_eq_none (by rw [h.len]; omega), List.getElem?_eq_none (by rw [h'.len]; omega)]

def cntF (D : List Int) : Nat := D.countP (fun d => d != 4611686018427387904)
def phi (D : List Int) : Nat := (D.map (fun d => (min d 1073741824).toNat)).sum

theorem cntF_le (D : List Int) : cntF D ≤ D.length := List.countP_le_length
theorem cntF_set {D : List Int} {v : Nat} {d0 d : Int} (h : D[v]? = some d0) (hd : d ≠ 4611686018427387904) : cntF (D.set v d) = if d0 = 4611686018427387904 then cntF D + 1 else cntF D := by
  induction D generalizing v with
  | nil => simp at h
  | cons a D ih =>
    cases v with
    | zero =>
      simp only [List.getElem?_cons_zero, Option.some.injEq] at h
      subst h
      by_cases c : a = 4611686018427387904 <;> simp [cntF, c, hd]
    | succ v =>
      simp only [List.getElem?_cons_succ] at h
      have := ih h
      unfold cntF at this ⊢
      rw [List.set_cons_succ, List.countP_cons, List.countP_cons, this]
      split <;> omega
theorem phi_set {D : List Int} {v : Nat} {d0 d : Int} (h : D[v]? = some d0) (hd : d < d0) (h0 : 0 ≤ d) (h1 : d < 1073741824) : phi (D.set v d) + 1 ≤ phi D := by
  induction D generalizing v with
  | nil => simp at h
  | cons a D ih =>
    cases v with
    | zero =>
      simp only [List.getElem?_cons_zero, Option.some.injEq] at h
      subst h
      simp only [phi, List.set_cons_zero, List.map_cons, List.sum_cons]
      omega
    | succ v =>
      simp only [List.getElem?_cons_succ] at h
      have := ih h
      simp only [phi, List.set_cons_succ, List.map_cons, List.sum_cons] at this ⊢
      omega

/-- D has come down to D'. -/
def Down (D D' : List Int) : Prop := ∀ (v : Nat) (d : Int), D[v]? = some d → ∃ d', D'[v]? = some d' ∧ d' ≤ d
theorem Down.refl (D : List Int) : Down D D := fun _ d h => ⟨d, h, Int.le_refl _⟩
theorem Down.trans {A B C : List Int} (h : Down A B) (k : Down B C) : Down A C := fun v d e => by
  obtain ⟨d1, e1, l1⟩ := h v d e
  obtain ⟨d2, e2, l2⟩ := k v d1 e1
  exact ⟨d2, e2, by omega⟩
theorem down_set {D : List Int} {t : Nat} {d0 d : Int} (h : D[t]? = some d0) (hd : d < d0) : Down D (D.set t d) := fun v e he => by
  have hl := (List.getElem?_eq_some_iff.1 he).1
  by_cases c : t = v
  · subst c
    rw [h] at he
    cases he
    exact ⟨d, by rw [List.getElem?_set_self hl], by omega⟩
  · exact ⟨e, by rw [List.getElem?_set_ne c]; exact he, Int.le_refl _⟩

/-- all edges that leave u are relaxed at d. -/
def Relaxed (E : List EdgeT) (W D : List Int) (u : Nat) (d : Int) : Prop := ∀ (i v : Nat) (x : Int), usable E W i u v x → ∃ d', D[v]? = some d' ∧ d' ≤ d + x
theorem Relaxed.down {E : List EdgeT} {W D D' : List Int} {u : Nat} {d : Int} (h : Relaxed E W D u d) (hd : Down D D') : Relaxed E W D' u d := fun i v x hu => by
  obtain ⟨d1, h1, h2⟩ := h i v x hu
  obtain ⟨d2, h3, h4⟩ := hd v d1 h1
  exact ⟨d2, h3, by omega⟩

structure Mid (n : Nat) (S : Nat → Prop) (E : List EdgeT) (W : List Int) (P : Nat → Int → Prop) (D zs : List Int) : Prop where
  len : D.length = n
  way : ∀ (v : Nat) (d : Int), D[v]? = some d → d ≠ 4611686018427387904 → Way S E W v d
  small : ∀ (v : Nat) (d : Int), D[v]? = some d → d ≠ 4611686018427387904 → 0 ≤ d ∧ d ≤ (cntF D : Int) * 1048576
  inq : ∀ z ∈ zs, ∃ (x : Nat) (d dx : Int), z = d * 4096 + (x : Int) ∧ x < n ∧ 0 ≤ d ∧ d ≤ (cntF D : Int) * 1048576 ∧ Way S E W x d ∧ D[x]? = some dx ∧ dx ≤ d
  closed : ∀ (u : Nat) (d : Int), D[u]? = some d → d ≠ 4611686018427387904 → P u d ∨ d * 4096 + (u : Int) ∈ zs ∨ Relaxed E W D u d
  cap : zs.length + phi D ≤ n * 1073741824

section
variable {n : Nat} {S : Nat → Prop} {E : List EdgeT} {W : List Int} {P : Nat → Int → Prop} {D zs zs' : List Int}

theorem Mid.relax (h : Mid n S E W P D zs) (hn : n ≤ 256) {t : Nat} {d0 d : Int} (ht : D[t]? = some d0) (hlt : d < d0) (h0 : 0 ≤ d) (hb : d ≤ ((cntF D : Int) + 1) * 1048576) (hw : Way S E W t d) (hp : zs'.Perm (zs ++ [d * 4096 + (t : Int)])) :
    Mid n S E W P (D.set t d) zs' ∧ zs'.length + 2 * phi (D.set t d) < zs.length + 2 * phi D := by
  have htl := (List.getElem?_eq_some_iff.1 ht).1
  have hlen := h.len
  have hc := cntF_le D
  have hd : d ≠ 4611686018427387904 := by omega
  have hset := cntF_set (D := D) ht hd
  have hcs := cntF_le (D.set t d)
  rw [List.length_set] at hcs
  have hge : cntF D ≤ cntF (D.set t d) := by rw [hset]; split <;> omega
  have hself : (D.set t d)[t]? = some d := by rw [List.getElem?_set_self htl]
  have hne : ∀ v, t ≠ v → (D.set t d)[v]? = D[v]? := fun v c => List.getElem?_set_ne c
  have hdc : d ≤ (cntF (D.set t d) : Int) * 1048576 := by
    rw [hset]
    split
    · push_cast; exact hb
    · have := (h.small t d0 ht (by assumption)).2
      omega
  have hphi := phi_set ht hlt h0 (by omega)
  have hzl : zs'.length = zs.length + 1 := by rw [hp.length_eq]; simp
  refine ⟨⟨by rw [List.length_set]; exact hlen, fun v e he hne' => ?_, fun v e he hne' => ?_, fun z hz => ?_, fun u e he hne' => ?_, ?_⟩, by omega⟩
  · by_cases c : t = v
    · subst c
      rw [hself] at he
      cases he
      exact hw
    · rw [hne v c] at he
      exact h.way v e he hne'
  · by_cases c : t = v
    · subst c
      rw [hself] at he
      cases he
      exact ⟨h0, hdc⟩
    · rw [hne v c] at he
      have := h.small v e he hne'
      omega
  · rw [hp.mem_iff, List.mem_append, List.mem_singleton] at hz
    rcases hz with hz | rfl
    · obtain ⟨x, e, dx, a1, a2, a3, a4, a5, a6, a7⟩ := h.inq z hz
      obtain ⟨dx', b1, b2⟩ := down_set ht hlt x dx a6
      exact ⟨x, e, dx', a1, a2, a3, by omega, a5, b1, by omega⟩
    · exact ⟨t, d, d, rfl, by omega, h0, hdc, hw, hself, Int.le_refl _⟩
  · by_cases c : t = u
    · subst c
      rw [hself] at he
      cases he
      exact .inr (.inl (by rw [hp.mem_iff]; simp))
    · rw [hne u c] at he
      rcases h.closed u e he hne' with k | k | k
      · exact .inl k
      · exact .inr (.inl (by rw [hp.mem_iff]; exact List.mem_append_left _ k))
      · exact .inr (.inr (k.down (down_set ht hlt)))
  · have := h.cap
    omega

theorem Mid.pop (h : Mid n S E W (fun _ _ => False) D zs) (hn : n ≤ 256) {z : Int} (hp : zs.Perm (z :: zs')) :
    ∃ (x : Nat) (d dx : Int), z = d * 4096 + (x : Int) ∧ z / 4096 = d ∧ z % 4096 = (x : Int) ∧ x < n ∧ 0 ≤ d ∧ d ≤ (cntF D : Int) * 1048576 ∧ Way S E W x d ∧ D[x]? = some dx ∧
      (dx < d → Mid n S E W (fun _ _ => False) D zs') ∧ (d ≤ dx → Mid n S E W (fun u e => u = x ∧ e = d) D zs') := by
  obtain ⟨x, d, dx, a1, a2, a3, a4, a5, a6, a7⟩ := h.inq z (by rw [hp.mem_iff]; exact List.mem_cons_self)
  have hcap : zs'.length + phi D ≤ n * 1073741824 := by
    have := h.cap
    rw [hp.length_eq] at this
    simp at this
    omega
  have hinq : ∀ z ∈ zs', ∃ (x : Nat) (d dx : Int), z = d * 4096 + (x : Int) ∧ x < n ∧ 0 ≤ d ∧ d ≤ (cntF D : Int) * 1048576 ∧ Way S E W x d ∧ D[x]? = some dx ∧ dx ≤ d :=
    fun y hy => h.inq y (by rw [hp.mem_iff]; exact List.mem_cons_of_mem _ hy)
  refine ⟨x, d, dx, a1, by omega, by omega, a2, a3, a4, a5, a6, fun hlt => ?_, fun hle => ?_⟩
  · refine ⟨h.len, h.way, h.small, hinq, fun u e he hne => ?_, hcap⟩
    rcases h.closed u e he hne with k | k | k
    · exact k.elim
    · rw [hp.mem_iff] at k
      rcases List.mem_cons.1 k with k | k
      · have hu : u = x := by
          have := (List.getElem?_eq_some_iff.1 he).1
          have := h.len
          omega
        subst hu
        rw [he] at a6
        cases a6
        omega
      · exact .inr (.inl k)
    · exact .inr (.inr k)
  · refine ⟨h.len, h.way, h.small, hinq, fun u e he hne => ?_, hcap⟩
    rcases h.closed u e he hne with k | k | k
    · exact k.elim
    · rw [hp.mem_iff] at k
      rcases List.mem_cons.1 k with k | k
      · have hu : u = x := by
          have := (List.getElem?_eq_some_iff.1 he).1
          have := h.len
          omega
        exact .inl ⟨hu, by omega⟩
      · exact .inr (.inl k)
    · exact .inr (.inr k)

theorem Mid.over {x : Nat} {d : Int} (h : Mid n S E W (fun u e => u = x ∧ e = d) D zs) (hr : Relaxed E W D x d) : Mid n S E W (fun _ _ => False) D zs := by
  refine ⟨h.len, h.way, h.small, h.inq, fun u e he hne => ?_, h.cap⟩
  rcases h.closed u e he hne with ⟨rfl, rfl⟩ | k | k
  · exact .inr (.inr hr)
  · exact .inr (.inl k)
  · exact .inr (.inr k)

theorem Mid.done (h : Mid n S E W (fun _ _ => False) D []) (hn : n ≤ 256) (hs : ∀ s : Nat, S s → D[s]? = some 0) : Fin35 n S E W D := by
  refine ⟨h.len, h.way, hs, fun i u v x d hu he hne => ?_, fun v d he hne => ?_⟩
  · rcases h.closed u d he hne with k | k | k
    · exact k.elim
    · exact absurd k (by simp)
    · exact k i v x hu
  · have := h.small v d he hne
    have := cntF_le D
    have := h.len
    omega

theorem Mid.start (n : Nat) (S : Nat → Prop) (E : List EdgeT) (W : List Int) : Mid n S E W (fun _ _ => False) (List.replicate n 4611686018427387904) [] := by
  have key : ∀ (v : Nat) (d : Int), (List.replicate n (4611686018427387904 : Int))[v]? = some d → d = 4611686018427387904 := fun v d h => by
    rw [List.getElem?_replicate] at h
    split at h <;> simp_all
  refine ⟨by simp, fun v d h k => absurd (key v d h) k, fun v d h k => absurd (key v d h) k, fun z hz => absurd hz (by simp), fun v d h k => absurd (key v d h) k, ?_⟩
  have e : (min (4611686018427387904 : Int) 1073741824).toNat = 1073741824 := by decide
  simp [phi, List.sum_replicate_nat, e]

end
theorem src_set {T : Nat → Prop} {D : List Int} {t : Nat} {d0 d : Int} (h : ∀ s : Nat, T s → D[s]? = some 0) (ht : D[t]? = some d0) (hlt : d < d0) (h0 : 0 ≤ d) : ∀ s : Nat, T s → (D.set t d)[s]? = some 0 := fun s hs => by
  by_cases c : t = s
  · subst c
    have := h t hs
    rw [ht] at this
    cases this
    omega
  · rw [List.getElem?_set_ne c]
    exact h s hs

/-- the edges that the iterator gives are those that leave the node. -/
theorem mem_idx {E : List EdgeT} {j : Nat} {z : Int} : z ∈ idx EdgeT.frm E E.length j ↔ ∃ (i : Nat) (e : EdgeT), z = (i : Int) ∧ E[i]? = some e ∧ e.frm = (j : Int) := by
  unfold idx
  rw [List.take_length, List.mem_map]
  constructor
  · rintro ⟨⟨e, i⟩, h1, rfl⟩
    rw [List.mem_filter] at h1
    refine ⟨i, e, rfl, ?_, by simpa using h1.2⟩
    have := List.mem_zipIdx_iff_getElem?.1 h1.1
    simpa using this
  · rintro ⟨i, e, rfl, h1, h2⟩
    refine ⟨(e, i), ?_, rfl⟩
    rw [List.mem_filter]
    exact ⟨List.mem_zipIdx_iff_getElem?.2 (by simpa using h1), by simpa using h2⟩
end Go.Proofs.Ytpomakmmjbimfaa
