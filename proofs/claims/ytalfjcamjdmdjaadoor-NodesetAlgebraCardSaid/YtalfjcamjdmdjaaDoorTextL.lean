/-
  nodeset: the text of an ascending list and its runs, plain.
-/
import Derived.Test.YtalfjcamjdmdjaaDoorStrP
import Derived.Test.YtalfjcamjdmdjaaDoorPrsA
namespace Go.Proofs.YtalfjcamjdmdjaaDoor

abbrev PSt0 := List (Nat × Nat) × Option (Nat × Nat)
def pStep (st : PSt0) (n : Nat) : PSt0 := match st.2 with
  | none => (st.1, some (n, n))
  | some (f, l) => if l + 1 < n then (st.1 ++ [(f, l)], some (n, n)) else (st.1, some (f, n))
def pEnd (st : PSt0) : List (Nat × Nat) := match st.2 with
  | none => st.1
  | some (f, l) => st.1 ++ [(f, l)]
/-- the runs of a list. -/
def runsN (L : List Nat) : List (Nat × Nat) := pEnd (L.foldl pStep ([], none))
def toR (st : PSt0) : RSt := (textR st.1, st.2)
theorem toR_step (st : PSt0) (n : Nat) : toR (pStep st n) = rStep (toR st) n := by
  obtain ⟨acc, o⟩ := st
  cases o with
  | none => rfl
  | some fl =>
    obtain ⟨f, l⟩ := fl
    unfold pStep rStep toR
    dsimp only
    split
    · simp [textR]
    · rfl
theorem toR_fold : ∀ (L : List Nat) (st : PSt0), toR (L.foldl pStep st) = L.foldl rStep (toR st)
  | [], _ => rfl
  | n :: L, st => by rw [List.foldl_cons, List.foldl_cons, toR_fold L, toR_step]
theorem toR_end (st : PSt0) : textR (pEnd st) = rEnd (toR st) := by
  obtain ⟨acc, o⟩ := st
  cases o with
  | none => rfl
  | some fl =>
    obtain ⟨f, l⟩ := fl
    unfold pEnd rEnd toR
    simp [textR]
theorem runs_text (L : List Nat) : textR (runsN L) = runsL L := by
  unfold runsN runsL rSt
  rw [toR_end, toR_fold]
  rfl
/-- what lies between two nodes. -/
structure PInv (L : List Nat) (acc : List (Nat × Nat)) (f l : Nat) : Prop where
  good : goodR (-2) (acc ++ [(f, l)])
  mem : ∀ m, m ∈ L ↔ ∃ r ∈ acc ++ [(f, l)], r.1 ≤ m ∧ m ≤ r.2
theorem PInv.step {L : List Nat} {acc : List (Nat × Nat)} {f l n : Nat} (h : PInv L acc f l) (hn : l < n) (h4 : n < 4096) : ∃ acc' f', pStep (acc, some (f, l)) n = (acc', some (f', n)) ∧ PInv (L ++ [n]) acc' f' n := by
  obtain ⟨g1, g2, g3, g4⟩ := (goodR_snoc acc (-2) (f, l)).1 h.good
  dsimp only at g2 g3 g4
  by_cases q : l + 1 < n
  · refine ⟨acc ++ [(f, l)], n, ?_, ?_, fun m => ?_⟩
    · unfold pStep
      dsimp only
      rw [if_pos q]
    · refine (goodR_snoc _ _ _).2 ⟨h.good, ?_, Nat.le_refl _, h4⟩
      rw [lastR_snoc]
      dsimp only
      omega
    · rw [List.mem_append, h.mem m]
      constructor
      · rintro (⟨r, hr, hm⟩ | hm)
        · exact ⟨r, List.mem_append_left _ hr, hm⟩
        · rw [List.mem_singleton.1 hm]
          exact ⟨(n, n), by simp, Nat.le_refl _, Nat.le_refl _⟩
      · rintro ⟨r, hr, hm⟩
        rcases List.mem_append.1 hr with hr | hr
        · exact .inl ⟨r, hr, hm⟩
        · rw [List.mem_singleton.1 hr] at hm
          dsimp only at hm
          exact .inr (List.mem_singleton.2 (by omega))
  · have hq : n = l + 1 := by omega
    refine ⟨acc, f, ?_, ?_, fun m => ?_⟩
    · unfold pStep
      dsimp only
      rw [if_neg q]
    · refine (goodR_snoc _ _ _).2 ⟨g1, g2, ?_, h4⟩
      dsimp only
      omega
    · rw [List.mem_append, h.mem m]
      constructor
      · rintro (⟨r, hr, hm⟩ | hm)
        · rcases List.mem_append.1 hr with hr | hr
          · exact ⟨r, List.mem_append_left _ hr, hm⟩
          · rw [List.mem_singleton.1 hr] at hm
            dsimp only at hm
            exact ⟨(f, n), by simp, by dsimp only; omega, by dsimp only; omega⟩
        · rw [List.mem_singleton.1 hm]
          exact ⟨(f, n), by simp, by dsimp only; omega, Nat.le_refl _⟩
      · rintro ⟨r, hr, hm⟩
        rcases List.mem_append.1 hr with hr | hr
        · exact .inl ⟨r, List.mem_append_left _ hr, hm⟩
        · rw [List.mem_singleton.1 hr] at hm
          dsimp only at hm
          by_cases e : m = n
          · exact .inr (List.mem_singleton.2 e)
          · exact .inl ⟨(f, l), by simp, hm.1, by dsimp only; omega⟩
theorem pinv_fold : ∀ (M : List Nat) {L : List Nat} {acc : List (Nat × Nat)} {f l : Nat}, PInv L acc f l → Up (l :: M) → (∀ n ∈ M, n < 4096) → ∃ acc' f' l', M.foldl pStep (acc, some (f, l)) = (acc', some (f', l')) ∧ PInv (L ++ M) acc' f' l'
  | [], L, acc, f, l, h, _, _ => ⟨acc, f, l, rfl, by rw [List.append_nil]; exact h⟩
  | n :: M, L, acc, f, l, h, hu, h4 => by
    have h1 : l < n := (List.pairwise_cons.1 hu).1 n (by simp)
    obtain ⟨acc', f', e, h2⟩ := h.step h1 (h4 n (by simp))
    rw [List.foldl_cons, e]
    obtain ⟨a, b, c, e2, h3⟩ := pinv_fold M h2 (List.pairwise_cons.1 hu).2 (fun m hm => h4 m (by simp [hm]))
    exact ⟨a, b, c, e2, by rw [List.append_assoc] at h3; exact h3⟩
theorem runs_of {L : List Nat} (hu : Up L) (h4 : ∀ n ∈ L, n < 4096) : goodR (-2) (runsN L) ∧ ∀ m, m ∈ L ↔ ∃ r ∈ runsN L, r.1 ≤ m ∧ m ≤ r.2 := by
  cases L with
  | nil => exact ⟨trivial, fun m => by simp [runsN, pEnd]⟩
  | cons n M =>
    have h0 : PInv [n] [] n n := by
      refine ⟨⟨by dsimp only; omega, Nat.le_refl _, h4 n (by simp), trivial⟩, fun m => ?_⟩
      simp
      omega
    obtain ⟨a, b, c, e, h⟩ := pinv_fold M h0 hu (fun m hm => h4 m (by simp [hm]))
    have he : runsN (n :: M) = a ++ [(b, c)] := by
      unfold runsN
      rw [List.foldl_cons]
      show pEnd (M.foldl pStep ([], some (n, n))) = _
      rw [e]
      rfl
    rw [he]
    exact ⟨h.good, h.mem⟩
theorem runsN_ne {L : List Nat} (hu : Up L) (h4 : ∀ n ∈ L, n < 4096) (hn : L ≠ []) : runsN L ≠ [] := fun e => by
  obtain ⟨n, M, rfl⟩ := List.exists_cons_of_ne_nil hn
  obtain ⟨r, hr, _⟩ := ((runs_of hu h4).2 n).1 (by simp)
  rw [e] at hr
  cases hr
/-- the text of a list reads back as its runs. -/
theorem text_reads {L : List Nat} (hu : Up L) (h4 : ∀ n ∈ L, n < 4096) (hn : L ≠ []) : Reads (textL L) (runsN L) := ⟨runsN_ne hu h4 hn, (runs_of hu h4).1, by unfold textL; rw [runs_text]⟩
theorem textL_nil : textL [] = [] := rfl
theorem good_above : ∀ {R : List (Nat × Nat)} {p : Int}, goodR p R → ∀ r ∈ R, p + 1 < (r.1 : Int)
  | q :: R, p, ⟨a, b, c, d⟩, r, hr => by
    rcases List.mem_cons.1 hr with rfl | hr
    · exact a
    · have := good_above d r hr
      omega
/-- runs are known by what they hold. -/
theorem good_ext : ∀ {R R' : List (Nat × Nat)} {p p' : Int}, goodR p R → goodR p' R' → (∀ m : Nat, (∃ r ∈ R, r.1 ≤ m ∧ m ≤ r.2) ↔ ∃ r ∈ R', r.1 ≤ m ∧ m ≤ r.2) → R = R'
  | [], [], _, _, _, _, _ => rfl
  | [], q :: R', _, _, _, ⟨_, b, _, _⟩, h => by
    obtain ⟨r, hr, _⟩ := (h q.1).2 ⟨q, by simp, Nat.le_refl _, b⟩
    cases hr
  | q :: R, [], _, _, ⟨_, b, _, _⟩, _, h => by
    obtain ⟨r, hr, _⟩ := (h q.1).1 ⟨q, by simp, Nat.le_refl _, b⟩
    cases hr
  | q :: R, q' :: R', p, p', ⟨a, b, c, d⟩, ⟨a', b', c', d'⟩, h => by
    have u := good_above d
    have u' := good_above d'
    have key : ∀ {x y : Nat × Nat} {X Y : List (Nat × Nat)}, x.1 ≤ x.2 → y.1 ≤ y.2 → (∀ r ∈ X, (x.2 : Int) + 1 < r.1) → (∀ r ∈ Y, (y.2 : Int) + 1 < r.1) → (∀ m : Nat, (∃ r ∈ x :: X, r.1 ≤ m ∧ m ≤ r.2) → ∃ r ∈ y :: Y, r.1 ≤ m ∧ m ≤ r.2) → y.1 ≤ x.1 := fun {x y X Y} hx hy hX hY hh => by
      obtain ⟨r, hr, h1, _⟩ := hh x.1 ⟨x, by simp, Nat.le_refl _, hx⟩
      rcases List.mem_cons.1 hr with rfl | hr
      · exact h1
      · have := hY r hr
        omega
    have e1 : q.1 = q'.1 := Nat.le_antisymm (key b' b u' u (fun m => (h m).2)) (key b b' u u' (fun m => (h m).1))
    have key2 : ∀ {x y : Nat × Nat} {X Y : List (Nat × Nat)}, x.1 = y.1 → x.1 ≤ x.2 → y.1 ≤ y.2 → (∀ r ∈ Y, (y.2 : Int) + 1 < r.1) → (∀ m : Nat, (∃ r ∈ x :: X, r.1 ≤ m ∧ m ≤ r.2) → ∃ r ∈ y :: Y, r.1 ≤ m ∧ m ≤ r.2) → x.2 ≤ y.2 := fun {x y X Y} e hx hy hY hh => by
      rcases Nat.lt_or_ge y.2 x.2 with hlt | hge
      · obtain ⟨r, hr, h1, h2⟩ := hh (y.2 + 1) ⟨x, by simp, by omega, by omega⟩
        rcases List.mem_cons.1 hr with rfl | hr
        · omega
        · have := hY r hr
          omega
      · exact hge
    have e2 : q.2 = q'.2 := Nat.le_antisymm (key2 e1 b b' u' (fun m => (h m).1)) (key2 e1.symm b' b u (fun m => (h m).2))
    have e : q = q' := Prod.ext e1 e2
    subst e
    have hi : ∀ {m : Nat} {Y : List (Nat × Nat)}, (∀ r ∈ Y, (q.2 : Int) + 1 < r.1) → (∃ r ∈ Y, r.1 ≤ m ∧ m ≤ r.2) → q.2 < m := fun {m Y} hY ⟨r, hr, h1, _⟩ => by
      have := hY r hr
      omega
    have ht : ∀ {m : Nat} {Y : List (Nat × Nat)}, q.2 < m → (∃ r ∈ q :: Y, r.1 ≤ m ∧ m ≤ r.2) → ∃ r ∈ Y, r.1 ≤ m ∧ m ≤ r.2 := fun {m Y} hm ⟨r, hr, h1, h2⟩ => by
      rcases List.mem_cons.1 hr with rfl | hr
      · omega
      · exact ⟨r, hr, h1, h2⟩
    rw [good_ext d d' fun m => ⟨fun hm => ht (hi u hm) ((h m).1 (by obtain ⟨r, hr, h3⟩ := hm; exact ⟨r, List.mem_cons_of_mem _ hr, h3⟩)), fun hm => ht (hi u' hm) ((h m).2 (by obtain ⟨r, hr, h3⟩ := hm; exact ⟨r, List.mem_cons_of_mem _ hr, h3⟩))⟩]
/-- what was read is the text of what it stands for. -/
theorem reads_text {l : List UInt8} {R : List (Nat × Nat)} (h : Reads l R) : textL (nodesW (runsW R)) = l ∧ runsN (nodesW (runsW R)) = R := by
  obtain ⟨h1, h2, h3⟩ := h
  obtain ⟨hW, hm⟩ := runsW_ok h2
  have h4 : ∀ n ∈ nodesW (runsW R), n < 4096 := fun n hn => by have := nodes_lt hn; rw [hW.len] at this; exact this
  obtain ⟨g1, g2⟩ := runs_of (nodes_up _) h4
  have e : runsN (nodesW (runsW R)) = R := good_ext g1 h2 fun m => (g2 m).symm.trans (hm m)
  refine ⟨?_, e⟩
  unfold textL
  rw [← runs_text, e]
  exact h3
/-- .. and so the words of a list's text are the list's. -/
theorem runsW_nodes {W : List Nat} (hW : Wds W) : runsW (runsN (nodesW W)) = W := by
  have h4 : ∀ n ∈ nodesW W, n < 4096 := fun n hn => by have := nodes_lt hn; rw [hW.len] at this; exact this
  obtain ⟨g1, g2⟩ := runs_of (nodes_up W) h4
  obtain ⟨h1, h2⟩ := runsW_ok g1
  exact words_ext h1 hW (up_ext (nodes_up _) (nodes_up _) fun m => (h2 m).trans (g2 m).symm)
end Go.Proofs.YtalfjcamjdmdjaaDoor
