/-
  How many requirements any matching can cover (samaritanref31.Most), by counting, and that Unmet leaves just the others.
  Conditions: kinds from 1 to 4.
-/
import Derived.Test.YtimijjhdgihobaaGreatDoorMqa
namespace Go.Proofs.YtimijjhdgihobaaGreatDoor
section
/-- the loop of Most: the greatest of what is behind it and of the choices so far. -/
def mostTo (h : Int) (ws : List Int) (b0 : Nat) (m : List Int → Nat) : Nat → Nat
  | 0 => b0
  | k + 1 => if satB h (ws.getD k 0) = true ∧ mostTo h ws b0 m k < 1 + m (ws.eraseIdx k) then 1 + m (ws.eraseIdx k) else mostTo h ws b0 m k

def most : List Int → List Int → Nat
  | _, [] => 0
  | ws, h :: t => mostTo h ws (most ws t) (fun l => most l t) ws.length

def cn (l : List Int) (x : Int) : Nat := l.count x

/-- the number that a matching can cover at most, by the counts. -/
def mm (w h : Int → Nat) : Nat := min (w 1) (h 1) + min (w 2) (h 2) + min (w 3) (h 3) + min (w 4) (h 4) + min (w 1 - h 1) (h 2 - w 2)

def core (w1 w2 h1 h2 : Nat) : Nat := min w1 h1 + min (w2 + (w1 - h1)) h2
theorem mm_core (w h : Int → Nat) : mm w h = core (w 1) (w 2) (h 1) (h 2) + (min (w 3) (h 3) + min (w 4) (h 4)) := by unfold mm core; omega
theorem core_h1 (w1 w2 h1 h2 : Nat) : core w1 w2 (h1 + 1) h2 = if 0 < w1 then max (core w1 w2 h1 h2) (1 + core (w1 - 1) w2 h1 h2) else core w1 w2 h1 h2 := by
  unfold core
  split <;> omega
theorem core_h2 (w1 w2 h1 h2 : Nat) : core w1 w2 h1 (h2 + 1) = max (core w1 w2 h1 h2) (max (if 0 < w1 then 1 + core (w1 - 1) w2 h1 h2 else 0) (if 0 < w2 then 1 + core w1 (w2 - 1) h1 h2 else 0)) := by
  unfold core
  split <;> split <;> omega

theorem mostTo_ge (h : Int) (ws : List Int) (b0 : Nat) (m : List Int → Nat) (k : Nat) : b0 ≤ mostTo h ws b0 m k := by
  induction k with
  | zero => exact Nat.le_refl _
  | succ k ih =>
    simp only [mostTo]
    split <;> omega

theorem mostTo_up (h : Int) (ws : List Int) (b0 : Nat) (m : List Int → Nat) (k : Nat) : ∀ i, i < k → satB h (ws.getD i 0) = true → 1 + m (ws.eraseIdx i) ≤ mostTo h ws b0 m k := by
  induction k with
  | zero => intro i hi; omega
  | succ k ih =>
    intro i hi hs
    simp only [mostTo]
    by_cases e : i = k
    · subst e
      split
      · exact Nat.le_refl _
      · rename_i hn
        have : ¬ mostTo h ws b0 m i < 1 + m (ws.eraseIdx i) := fun q => hn ⟨hs, q⟩
        omega
    · have := ih i (by omega) hs
      split <;> omega

theorem mostTo_at (h : Int) (ws : List Int) (b0 : Nat) (m : List Int → Nat) (k : Nat) : mostTo h ws b0 m k = b0 ∨ ∃ i, i < k ∧ satB h (ws.getD i 0) = true ∧ mostTo h ws b0 m k = 1 + m (ws.eraseIdx i) := by
  induction k with
  | zero => exact .inl rfl
  | succ k ih =>
    simp only [mostTo]
    split
    · rename_i hy
      exact .inr ⟨k, by omega, hy.1, rfl⟩
    · rcases ih with e | ⟨i, hi, hs, e⟩
      · exact .inl e
      · exact .inr ⟨i, by omega, hs, e⟩

theorem cn_erase (ws : List Int) : ∀ (i : Nat), i < ws.length → ∀ x, cn (ws.eraseIdx i) x + (if ws.getD i 0 = x then 1 else 0) = cn ws x := by
  induction ws with
  | nil => intro i hi; simp at hi
  | cons y t ih =>
    intro i hi x
    cases i with
    | zero =>
      simp [cn, List.count_cons]
    | succ i =>
      have := ih i (by simpa using hi) x
      simp only [cn, List.eraseIdx_cons_succ, List.count_cons, List.getD_cons_succ] at this ⊢
      omega

theorem cn_at {ws : List Int} {x : Int} (h : 0 < cn ws x) : ∃ i, i < ws.length ∧ ws.getD i 0 = x := by
  have hm : x ∈ ws := List.count_pos_iff.1 h
  obtain ⟨i, hi, e⟩ := List.getElem_of_mem hm
  exact ⟨i, hi, by simp [hi, e]⟩

def Kinds (l : List Int) : Prop := ∀ x ∈ l, 1 ≤ x ∧ x ≤ 4

theorem most_eq (hs : List Int) : ∀ ws, Kinds hs → Kinds ws → most ws hs = mm (cn ws) (cn hs) := by
  induction hs with
  | nil =>
    intro ws _ _
    simp [most, mm, cn]
  | cons h t ih =>
    intro ws hh hw
    have hk : 1 ≤ h ∧ h ≤ 4 := hh h (by simp)
    have ht : Kinds t := fun x hx => hh x (by simp [hx])
    have hwk : ∀ i, i < ws.length → 1 ≤ ws.getD i 0 ∧ ws.getD i 0 ≤ 4 := fun i hi => hw _ (by simp [hi])
    have hwe : ∀ i, Kinds (ws.eraseIdx i) := fun i x hx => hw x (List.mem_of_mem_eraseIdx hx)
    have g0 : most ws t = mm (cn ws) (cn t) := ih ws ht hw
    have ge := mostTo_ge h ws (most ws t) (fun l => most l t) ws.length
    have up := mostTo_up h ws (most ws t) (fun l => most l t) ws.length
    have at_ := mostTo_at h ws (most ws t) (fun l => most l t) ws.length
    have e0 : most ws (h :: t) = mostTo h ws (most ws t) (fun l => most l t) ws.length := rfl
    rw [← e0] at ge up at_
    generalize most ws (h :: t) = M at *
    have hc : ∀ x, cn (h :: t) x = cn t x + if h = x then 1 else 0 := fun x => by simp [cn, List.count_cons]
    have red : ∀ i, i < ws.length → cn (ws.eraseIdx i) = fun x => cn ws x - if ws.getD i 0 = x then 1 else 0 := fun i hi => by
      funext x
      have := cn_erase ws i hi x
      omega
    have hup : ∀ j, satB h j = true → 0 < cn ws j → 1 + mm (fun x => cn ws x - if j = x then 1 else 0) (cn t) ≤ M := by
      intro j hj hp
      obtain ⟨i, hi, e⟩ := cn_at hp
      have := up i hi (by rw [e]; exact hj)
      rw [ih _ ht (hwe i), red i hi, e] at this
      exact this
    have hat : M = mm (cn ws) (cn t) ∨ ∃ j, satB h j = true ∧ 0 < cn ws j ∧ M = 1 + mm (fun x => cn ws x - if j = x then 1 else 0) (cn t) := by
      rcases at_ with e | ⟨i, hi, hs, e⟩
      · exact .inl (by rw [e, g0])
      · refine .inr ⟨ws.getD i 0, hs, ?_, by rw [e, ih _ ht (hwe i), red i hi]⟩
        have := cn_erase ws i hi (ws.getD i 0)
        rw [if_pos rfl] at this
        omega
    rw [g0] at ge
    clear up at_ e0 g0 ih hwk hwe hw hh red
    have hsat : ∀ j, satB h j = true → j = h ∨ (h = 2 ∧ j = 1) := fun j hj => by
      simp [satB] at hj
      rcases hj.2 with e | e
      · exact .inl e.symm
      · exact .inr e
    rcases (show h = 1 ∨ h = 2 ∨ h = 3 ∨ h = 4 from by omega) with rfl | rfl | rfl | rfl
    · have u1 := hup 1 rfl
      have hat' : M = mm (cn ws) (cn t) ∨ (0 < cn ws 1 ∧ M = 1 + mm (fun x => cn ws x - if (1 : Int) = x then 1 else 0) (cn t)) := hat.imp_right fun ⟨j, hj, hp, e⟩ => by
        obtain rfl : j = 1 := by have := hsat j hj; omega
        exact ⟨hp, e⟩
      clear hat hup hsat
      simp only [mm_core, hc] at *
      simp at *
      rw [core_h1]
      generalize core (cn ws 1) (cn ws 2) (cn t 1) (cn t 2) = X at *
      generalize core (cn ws 1 - 1) (cn ws 2) (cn t 1) (cn t 2) = Y at *
      split <;> omega
    · have u1 := hup 1 rfl
      have u2 := hup 2 rfl
      have hat' : M = mm (cn ws) (cn t) ∨ (0 < cn ws 1 ∧ M = 1 + mm (fun x => cn ws x - if (1 : Int) = x then 1 else 0) (cn t)) ∨ (0 < cn ws 2 ∧ M = 1 + mm (fun x => cn ws x - if (2 : Int) = x then 1 else 0) (cn t)) := hat.imp_right fun ⟨j, hj, hp, e⟩ => by
        rcases hsat j hj with rfl | ⟨_, rfl⟩
        · exact .inr ⟨hp, e⟩
        · exact .inl ⟨hp, e⟩
      clear hat hup hsat
      simp only [mm_core, hc] at *
      simp at *
      rw [core_h2]
      generalize core (cn ws 1) (cn ws 2) (cn t 1) (cn t 2) = X at *
      generalize core (cn ws 1 - 1) (cn ws 2) (cn t 1) (cn t 2) = Y at *
      generalize core (cn ws 1) (cn ws 2 - 1) (cn t 1) (cn t 2) = Z at *
      split <;> split <;> omega
    · have u1 := hup 3 rfl
      have hat' : M = mm (cn ws) (cn t) ∨ (0 < cn ws 3 ∧ M = 1 + mm (fun x => cn ws x - if (3 : Int) = x then 1 else 0) (cn t)) := hat.imp_right fun ⟨j, hj, hp, e⟩ => by
        obtain rfl : j = 3 := by have := hsat j hj; omega
        exact ⟨hp, e⟩
      clear hat hup hsat
      simp only [mm_core, hc] at *
      simp at *
      generalize core (cn ws 1) (cn ws 2) (cn t 1) (cn t 2) = X at *
      omega
    · have u1 := hup 4 rfl
      have hat' : M = mm (cn ws) (cn t) ∨ (0 < cn ws 4 ∧ M = 1 + mm (fun x => cn ws x - if (4 : Int) = x then 1 else 0) (cn t)) := hat.imp_right fun ⟨j, hj, hp, e⟩ => by
        obtain rfl : j = 4 := by have := hsat j hj; omega
        exact ⟨hp, e⟩
      clear hat hup hsat
      simp only [mm_core, hc] at *
      simp at *
      generalize core (cn ws 1) (cn ws 2) (cn t 1) (cn t 2) = X at *
      omega

/-- the second pass, by the counts. -/
theorem pass2_counts : ∀ (ws : List Int) (g : Int → Int) (r : List Int), (∀ x, 0 ≤ g x) →
    (∀ x, (ws.foldl step2 (g, r)).1 x = g x - min (cn ws x : Int) (g x)) ∧ (∀ x, (cn (ws.foldl step2 (g, r)).2 x : Int) = cn r x + (cn ws x - min (cn ws x : Int) (g x))) := by
  intro ws
  induction ws with
  | nil =>
    intro g r hg
    refine ⟨fun x => ?_, fun x => ?_⟩
    · have := hg x
      simp [cn]
      omega
    · have := hg x
      simp [cn]
      omega
  | cons y t ih =>
    intro g r hg
    have hc : ∀ x, cn (y :: t) x = cn t x + if y = x then 1 else 0 := fun x => by simp [cn, List.count_cons]
    simp only [List.foldl_cons]
    by_cases hy : 0 < g y
    · rw [step2_yes (s := (g, r)) hy]
      have h2 := ih (upd g y (g y - 1)) r (fun x => by
        have := hg x
        simp only [upd]
        split <;> omega)
      refine ⟨fun x => ?_, fun x => ?_⟩
      · rw [h2.1 x, hc x]
        simp only [upd]
        by_cases e : x = y
        · subst e
          simp
          omega
        · simp [e, Ne.symm e]
      · rw [h2.2 x, hc x]
        simp only [upd]
        by_cases e : x = y
        · subst e
          simp
          omega
        · simp [e, Ne.symm e]
    · rw [step2_no (s := (g, r)) hy]
      have h2 := ih g (r ++ [y]) hg
      have h0 : g y = 0 := by have := hg y; omega
      refine ⟨fun x => ?_, fun x => ?_⟩
      · rw [h2.1 x, hc x]
        by_cases e : x = y
        · subst e
          simp
          omega
        · simp [Ne.symm e]
      · rw [h2.2 x, hc x]
        have hr : cn (r ++ [y]) x = cn r x + if y = x then 1 else 0 := by simp [cn, List.count_append, List.count_cons]
        rw [hr]
        by_cases e : x = y
        · subst e
          simp
          omega
        · simp [Ne.symm e]

theorem pass3_count : ∀ (l : List Int) (g : Int → Int) (r : List Int), (0 ≤ g 2) → ((l.foldl step3 (g, r)).2.length : Int) = r.length + l.length - min (cn l 1 : Int) (g 2) := by
  intro l
  induction l with
  | nil => intro g r hg; simp [cn]; omega
  | cons y t ih =>
    intro g r hg
    have hc : cn (y :: t) 1 = cn t 1 + if y = 1 then 1 else 0 := by simp [cn, List.count_cons]
    simp only [List.foldl_cons]
    by_cases hy : y = 1 ∧ 0 < g 2
    · rw [step3_yes (s := (g, r)) hy, ih _ r (by simp [upd]; omega), hc]
      simp [upd, hy.1]
      omega
    · rw [step3_no (s := (g, r)) hy, ih g _ hg, hc]
      by_cases e : y = 1
      · have : g 2 = 0 := by
          have : ¬ 0 < g 2 := fun q => hy ⟨e, q⟩
          omega
        simp [e, this]
        omega
      · simp [e]
        omega

theorem kinds_len : ∀ l : List Int, Kinds l → l.length = cn l 1 + cn l 2 + cn l 3 + cn l 4 := by
  intro l
  induction l with
  | nil => intro _; rfl
  | cons y t ih =>
    intro h
    have := ih (fun x hx => h x (by simp [hx]))
    have hy := h y (by simp)
    have hc : ∀ x, cn (y :: t) x = cn t x + if y = x then 1 else 0 := fun x => by simp [cn, List.count_cons]
    rw [hc, hc, hc, hc]
    rcases (show y = 1 ∨ y = 2 ∨ y = 3 ∨ y = 4 from by omega) with rfl | rfl | rfl | rfl <;> simp <;> omega

theorem unmet_count (ws hs : List Int) (hw : Kinds ws) : ((unmet ws hs).length : Int) = ws.length - mm (cn ws) (cn hs) := by
  have hg : ∀ x, 0 ≤ cnt hs x := fun x => (cnt_bd hs x).1
  have h2 := pass2_counts ws (cnt hs) [] hg
  have hk : Kinds (ws.foldl step2 (cnt hs, [])).2 := pass2_mem ws (cnt hs, []) (fun x => 1 ≤ x ∧ x ≤ 4) hw (by simp)
  have h3 := pass3_count (ws.foldl step2 (cnt hs, [])).2 (ws.foldl step2 (cnt hs, [])).1 [] (by
    rw [h2.1 2]
    have := hg 2
    omega)
  have hl := kinds_len _ hk
  have hwl := kinds_len ws hw
  have e1 := h2.2 1
  have e2 := h2.2 2
  have e3 := h2.2 3
  have e4 := h2.2 4
  have d2 := h2.1 2
  have c1 : cnt hs 1 = (cn hs 1 : Int) := rfl
  have c2 : cnt hs 2 = (cn hs 2 : Int) := rfl
  have c3 : cnt hs 3 = (cn hs 3 : Int) := rfl
  have c4 : cnt hs 4 = (cn hs 4 : Int) := rfl
  have n0 : ∀ x, cn ([] : List Int) x = 0 := fun _ => rfl
  rw [c1, n0] at e1
  rw [c2, n0] at e2
  rw [c3, n0] at e3
  rw [c4, n0] at e4
  rw [c2] at d2
  unfold unmet pass3 pass2
  rw [h3, d2]
  simp only [List.length_nil] at *
  unfold mm
  generalize (ws.foldl step2 (cnt hs, [])).2 = R at *
  omega

theorem unmet_most (ws hs : List Int) (hw : Kinds ws) (hh : Kinds hs) : ((unmet ws hs).length : Int) = ws.length - most ws hs := by
  rw [unmet_count ws hs hw, most_eq hs ws hh hw]

theorem unmet_more (ws hs : List Int) (x : Int) (hw : Kinds ws) (hx : 1 ≤ x ∧ x ≤ 4) : (unmet ws (hs ++ [x])).length ≤ (unmet ws hs).length := by
  have h1 := unmet_count ws hs hw
  have h2 := unmet_count ws (hs ++ [x]) hw
  have hc : ∀ y, cn (hs ++ [x]) y = cn hs y + if x = y then 1 else 0 := fun y => by simp [cn, List.count_append, List.count_cons]
  have : mm (cn ws) (cn hs) ≤ mm (cn ws) (cn (hs ++ [x])) := by
    unfold mm
    rw [hc, hc, hc, hc]
    rcases (show x = 1 ∨ x = 2 ∨ x = 3 ∨ x = 4 from by omega) with rfl | rfl | rfl | rfl <;> simp <;> omega
  omega
end
end Go.Proofs.YtimijjhdgihobaaGreatDoor
