/-
  samaritanref38.Apart.
  Plain: the choices of dispatch and the incidents: one urgency after the other; without lower urgencies the choices for the higher ones are the same.
-/
import Derived.Test.YtimijjhdgihobaaGreatDoorMqzd
import Derived.BigQuiet
namespace Go.Proofs.YtimijjhdgihobaaGreatDoor
section
open Go.RowKit Go.Maps

/-- r is the first index at which the choices differ, or -1. -/
def ApartP (a b : List ChoT) (r : Int) : Prop := (r = -1 ∧ a = b) ∨ ∃ i : Nat, r = i ∧ (∀ j, j < i → a[j]? = b[j]?) ∧ a[i]? ≠ b[i]?
theorem ApartP.unique {a b : List ChoT} {r q : Int} (h : ApartP a b r) (h' : ApartP a b q) : r = q := by
  rcases h with ⟨rfl, e⟩ | ⟨i, rfl, h1, h2⟩
  · rcases h' with ⟨rfl, _⟩ | ⟨j, _, _, h4⟩
    · rfl
    · exact absurd (by rw [e]) h4
  · rcases h' with ⟨_, e⟩ | ⟨j, rfl, h3, h4⟩
    · exact absurd (by rw [e]) h2
    · rcases Nat.lt_trichotomy i j with h | h | h
      · exact absurd (h3 i h) h2
      · rw [h]
      · exact absurd (h1 j h) h4
theorem ApartP.same {a b : List ChoT} {r : Int} (h : ApartP a b r) (e : a = b) : r = -1 := h.unique (.inl ⟨rfl, e⟩)
def RetApart (w : World) (a b : List ChoT) (e : Ending) (w' : World) : Prop := ∃ r q, e = .returned (.int .i64 r) ∧ ApartP a b r ∧ w' = w.drewN q
theorem cho_at {w : World} {B : Nat} {A : Option Addr} {cs : List ChoT} (h : ChosAt w B A cs) {i : Nat} {c : ChoT} (hi : cs[i]? = some c) : ∃ b o, A = some ⟨b, o, none⟩ ∧ b < B ∧ w.cell? ⟨b, o + i * 4, none⟩ = some (.int .i64 c.inc) ∧ w.cell? ⟨b, o + i * 4 + 1, none⟩ = some (.int .i64 c.kind) ∧ w.cell? ⟨b, o + i * 4 + 2, none⟩ = some (.int .i64 c.unit) ∧ w.cell? ⟨b, o + i * 4 + 3, none⟩ = some (.int .i64 c.time) := by
  obtain ⟨b, o, e, hb, hc⟩ := RecsAt.at cellsCh_len h hi (by decide)
  exact ⟨b, o, e, hb, hc 0 _ rfl, hc 1 _ rfl, hc 2 _ rfl, hc 3 _ rfl⟩
set_option maxRecDepth 100000 in
set_option maxHeartbeats 8000000 in
theorem apart_any (A B : Option Addr) (c d : Nat) (fa fb : List ChoT) (w : World) (W : Nat) (ha : ChosAt w W A fa) (hb : ChosAt w W B fb) (_la : fa.length ≤ 4611686018427387904) (_lb : fb.length ≤ 4611686018427387904) :
    Calls Tryz.prog 9 #[.slice A fa.length c, .slice B fb.length d] w (RetApart w fa fb) := by
  have HA := Lib.hid ha
  have HB := Lib.hid hb
  clear ha hb
  go_enter Tryz.func9, Tryz.ntmps9
  go_wp2_with fail
  go_loopw [5] (fun iv Y => ∃ (i q : Nat), i ≤ max fa.length fb.length ∧ iv = .int .i64 i ∧ Y = w.drewN q ∧ Hid (∀ j, j < i → fa[j]? = fb[j]?)) (fun iv _ => max fa.length fb.length - (intOf iv).toNat)
  case atStart => exact ⟨0, 0, Nat.zero_le _, rfl, rfl, Lib.hid (fun j hj => by omega)⟩
  case round =>
    obtain ⟨i, q, hi, rfl, hY, HI⟩ := hrel
    have HY := Lib.hid hY
    have hcA : ChosAt wr W A fa := by rw [hY]; exact HA.out
    have hcB : ChosAt wr W B fb := by rw [hY]; exact HB.out
    clear hY
    by_cases h1 : i < fa.length
    · have h1' : (i : Int) < (fa.length : Int) := by omega
      by_cases h2 : i < fb.length
      · have h2' : (i : Int) < (fb.length : Int) := by omega
        obtain ⟨a, ha⟩ : ∃ a, fa[i]? = some a := ⟨_, List.getElem?_eq_getElem h1⟩
        obtain ⟨b, hb⟩ : ∃ b, fb[i]? = some b := ⟨_, List.getElem?_eq_getElem h2⟩
        obtain ⟨ba, oa, rfl, _, x0, x1, x2, x3⟩ := cho_at hcA ha
        obtain ⟨bb, ob, rfl, _, y0, y1, y2, y3⟩ := cho_at hcB hb
        have HDF := Lib.hid (fun (h : a ≠ b) => (show ApartP fa fb (i : Int) from .inr ⟨i, rfl, HI.out, by rw [ha, hb]; intro e; injection e with e; exact h e⟩))
        have HEQ := Lib.hid (fun (h : a = b) (j : Nat) (hj : j < i + 1) => (show fa[j]? = fb[j]? from by
          by_cases e : j = i
          · subst e
            rw [ha, hb, h]
          · exact HI.out j (by omega)))
        clear hcA hcB
        obtain ⟨a0, a1, a2, a3⟩ := a
        obtain ⟨b0, b1, b2, b3⟩ := b
        simp only at x0 x1 x2 x3 y0 y1 y2 y3
        clear ha hb
        have da1 : decide ((fa.length : Int) ≤ (i : Int)) = false := decide_eq_false (by omega)
        have da2 : decide (fa.length ≤ i) = false := decide_eq_false (by omega)
        have da3 : decide ((i : Int) < (fa.length : Int)) = true := decide_eq_true (by omega)
        have da4 : decide (i < fa.length) = true := decide_eq_true (by omega)
        have db1 : decide ((fb.length : Int) ≤ (i : Int)) = false := decide_eq_false (by omega)
        have db2 : decide (fb.length ≤ i) = false := decide_eq_false (by omega)
        have db3 : decide ((i : Int) < (fb.length : Int)) = true := decide_eq_true (by omega)
        have db4 : decide (i < fb.length) = true := decide_eq_true (by omega)
        by_cases e0 : a0 = b0
        · by_cases e1 : a1 = b1
          · by_cases e2 : a2 = b2
            · by_cases e3 : a3 = b3
              · subst e0 e1 e2 e3
                go_wp2_with fail
                go_quiet (fail)
                go_wp2_with fail
                go_roundw
                case rel => exact ⟨i + 1, q + nq, by omega, by go_num, by rw [HY.out, World.drewN_drewN], Lib.hid (HEQ.out trivial)⟩
                case measure => simp [intOf]; omega
              · subst e0 e1 e2
                have hne := HDF.out (fun e => e3 (by injection e))
                have HNE := Lib.hid hne
                clear hne
                go_wp2_with fail
                go_quiet (fail)
                go_wp2_with fail
                go_ret
                exact ⟨_, q + nq, rfl, HNE.out, by rw [HY.out, World.drewN_drewN]⟩
            · subst e0 e1
              have hne := HDF.out (fun e => e2 (by injection e))
              have HNE := Lib.hid hne
              clear hne
              go_wp2_with fail
              go_quiet (fail)
              go_wp2_with fail
              go_ret
              exact ⟨_, q + nq, rfl, HNE.out, by rw [HY.out, World.drewN_drewN]⟩
          · subst e0
            have hne := HDF.out (fun e => e1 (by injection e))
            have HNE := Lib.hid hne
            clear hne
            go_wp2_with fail
            go_quiet (fail)
            go_wp2_with fail
            go_ret
            exact ⟨_, q + nq, rfl, HNE.out, by rw [HY.out, World.drewN_drewN]⟩
        · have hne := HDF.out (fun e => e0 (by injection e))
          have HNE := Lib.hid hne
          clear hne
          go_wp2_with fail
          go_quiet (fail)
          go_wp2_with fail
          go_ret
          exact ⟨_, q + nq, rfl, HNE.out, by rw [HY.out, World.drewN_drewN]⟩
      · have h2' : ¬ (i : Int) < (fb.length : Int) := by omega
        have h2'' : (fb.length : Int) ≤ (i : Int) := by omega
        have da1 : decide ((fa.length : Int) ≤ (i : Int)) = false := decide_eq_false (by omega)
        have da2 : decide (fa.length ≤ i) = false := decide_eq_false (by omega)
        have da3 : decide ((i : Int) < (fa.length : Int)) = true := decide_eq_true (by omega)
        have da4 : decide (i < fa.length) = true := decide_eq_true (by omega)
        have db1 : decide ((fb.length : Int) ≤ (i : Int)) = true := decide_eq_true (by omega)
        have db2 : decide (fb.length ≤ i) = true := decide_eq_true (by omega)
        have db3 : decide ((i : Int) < (fb.length : Int)) = false := decide_eq_false (by omega)
        have db4 : decide (i < fb.length) = false := decide_eq_false (by omega)
        have HNE : Hid (ApartP fa fb (i : Int)) := Lib.hid (.inr ⟨i, rfl, HI.out, by rw [List.getElem?_eq_getElem h1, List.getElem?_eq_none (by omega)]; intro e; cases e⟩)
        go_wp2_with fail
        go_quiet (fail)
        go_wp2_with fail
        go_ret
        exact ⟨_, q + nq, rfl, HNE.out, by rw [HY.out, World.drewN_drewN]⟩
    · have h1' : ¬ (i : Int) < (fa.length : Int) := by omega
      have h1'' : (fa.length : Int) ≤ (i : Int) := by omega
      by_cases h2 : i < fb.length
      · have h2' : (i : Int) < (fb.length : Int) := by omega
        have da1 : decide ((fa.length : Int) ≤ (i : Int)) = true := decide_eq_true (by omega)
        have da2 : decide (fa.length ≤ i) = true := decide_eq_true (by omega)
        have da3 : decide ((i : Int) < (fa.length : Int)) = false := decide_eq_false (by omega)
        have da4 : decide (i < fa.length) = false := decide_eq_false (by omega)
        have db1 : decide ((fb.length : Int) ≤ (i : Int)) = false := decide_eq_false (by omega)
        have db2 : decide (fb.length ≤ i) = false := decide_eq_false (by omega)
        have db3 : decide ((i : Int) < (fb.length : Int)) = true := decide_eq_true (by omega)
        have db4 : decide (i < fb.length) = true := decide_eq_true (by omega)
        have HNE : Hid (ApartP fa fb (i : Int)) := Lib.hid (.inr ⟨i, rfl, HI.out, by rw [List.getElem?_eq_getElem h2, List.getElem?_eq_none (by omega)]; intro e; cases e⟩)
        go_wp2_with fail
        go_quiet (fail)
        go_wp2_with fail
        go_ret
        exact ⟨_, q + nq, rfl, HNE.out, by rw [HY.out, World.drewN_drewN]⟩
      · have h2' : ¬ (i : Int) < (fb.length : Int) := by omega
        have HNE : Hid (ApartP fa fb (-1)) := Lib.hid (.inl ⟨rfl, List.ext_getElem? fun j => by
          by_cases hj : j < i
          · exact HI.out j hj
          · rw [List.getElem?_eq_none (by omega), List.getElem?_eq_none (by omega)]⟩)
        go_wp2_with fail
        go_ret
        exact ⟨_, q, rfl, HNE.out, HY.out⟩
end
section
theorem ins_front {P : List IncT} {x : IncT} (h : ∀ z ∈ P, ltI x z) : insL P x = x :: P := by
  cases P with
  | nil => rfl
  | cons y P => rw [insL, if_pos (h y List.mem_cons_self)]
theorem ins_filter {p : IncT → Bool} {x : IncT} : ∀ {P : List IncT}, SortedI P → (insL P x).filter p = if p x = true then insL (P.filter p) x else P.filter p
  | [], _ => by
    cases h : p x <;> simp [insL, h]
  | y :: P, hs => by
    have hs' : SortedI P := (List.pairwise_cons.1 hs).2
    by_cases hlt : ltI x y
    · have hall : ∀ z ∈ y :: P, ltI x z := fun z hz => by
        rcases List.mem_cons.1 hz with rfl | hz
        · exact hlt
        · exact ltI_trans hlt ((List.pairwise_cons.1 hs).1 z hz)
      rw [ins_front hall]
      cases h : p x
      · rw [List.filter_cons_of_neg (by rw [h]; decide), if_neg (by decide)]
      · rw [List.filter_cons_of_pos h, if_pos rfl, ins_front (fun z hz => hall z (List.mem_filter.1 hz).1)]
    · rw [insL, if_neg hlt]
      have ih := ins_filter (p := p) (x := x) hs'
      cases hy : p y
      · rw [List.filter_cons_of_neg (by rw [hy]; decide), ih, List.filter_cons_of_neg (by rw [hy]; decide)]
      · rw [List.filter_cons_of_pos hy, ih, List.filter_cons_of_pos hy]
        split
        · rw [insL, if_neg hlt]
        · rfl
theorem sort_filter (p : IncT → Bool) (xs : List IncT) : (sortK xs).filter p = sortK (xs.filter p) := by
  have key : ∀ (xs P : List IncT), SortedI P → (xs.foldl insL P).filter p = (xs.filter p).foldl insL (P.filter p) := by
    intro xs
    induction xs with
    | nil => intro P _; rfl
    | cons x xs ih =>
      intro P h
      rw [List.foldl_cons, ih _ (insL_sorted h), ins_filter h]
      cases hx : p x
      · rw [List.filter_cons_of_neg (by rw [hx]; decide), if_neg (by decide)]
      · rw [List.filter_cons_of_pos hx, List.foldl_cons, if_pos rfl]
  have := key xs [] List.Pairwise.nil
  simpa [sortK] using this
theorem flat_filter {α β : Type} {f : α → List β} {q : β → Bool} {q' : α → Bool} : ∀ {L : List α}, (∀ x, ∀ s ∈ f x, q s = q' x) → (L.flatMap f).filter q = (L.filter q').flatMap f
  | [], _ => rfl
  | x :: L, h => by
    have ih := flat_filter (f := f) (q := q) (q' := q') (L := L) h
    rw [List.flatMap_cons, List.filter_append, ih]
    cases hx : q' x
    · rw [List.filter_cons_of_neg (by rw [hx]; decide), List.filter_eq_nil_iff.2 (fun s hs => by rw [h x s hs, hx]; decide), List.nil_append]
    · rw [List.filter_cons_of_pos hx, List.flatMap_cons, List.filter_eq_self.2 (fun s hs => by rw [h x s hs, hx])]
theorem slots_urg (xs : List IncT) (us : List UnitT) (ps : List Plan) (g : Int) : (slotsL xs us ps).filter (fun s => s.urg == g) = (sortK ((xs.filter openI).filter (fun x => x.urg == g))).flatMap (slotsX us ps) := by
  unfold slotsL
  rw [flat_filter (q' := fun x : IncT => x.urg == g), sort_filter]
  intro x s hs
  obtain ⟨k, _, rfl⟩ := List.mem_map.1 hs
  rfl
theorem slotsU_sub {p : IncT → Bool} {g : Int} (hp : ∀ x, x.urg = g → p x = true) (xs : List IncT) (us : List UnitT) (ps : List Plan) : slotsU (xs.filter p) us ps g = slotsU xs us ps g := by
  unfold slotsU
  rw [slots_urg, slots_urg, List.filter_filter, List.filter_filter, List.filter_filter]
  congr 3
  refine List.filter_congr fun x _ => ?_
  cases hx : (x.urg == g)
  · simp
  · rw [hp x (by simpa using hx)]
    simp
theorem slotsU_nil {xs : List IncT} {us : List UnitT} {ps : List Plan} {g : Int} (h : ∀ x ∈ xs, x.urg ≠ g) : slotsU xs us ps g = [] := by
  unfold slotsU
  rw [List.filter_eq_nil_iff.2 (fun s hs => ?_)]
  · rfl
  · obtain ⟨x, hx, _, _, e, _⟩ := slotsL_mem hs
    rw [e]
    simpa using h x hx
section
variable {n : Nat} {E : List EdgeT} {ts : List Int} {xs ys : List IncT} {ps : List Plan} {rsv : Int}
theorem StepR.cast {g : Int} {us us' : List UnitT} {cs : List ChoT} (h : StepR n E ts xs ps rsv g us cs us') (e : slotsU xs us ps g = slotsU ys us ps g) : StepR n E ts ys ps rsv g us cs us' := by
  unfold StepR at h ⊢
  rw [← e]
  exact h
theorem StepR.empty {g : Int} {us us' : List UnitT} {cs : List ChoT} (h : StepR n E ts xs ps rsv g us cs us') (e : slotsU xs us ps g = []) : cs = [] ∧ us' = us := h.unique (StepR.none e)
theorem run_none : ∀ {l : List Int} {us us' : List UnitT} {cs : List ChoT}, (∀ g ∈ l, ∀ x ∈ xs, x.urg ≠ g) → RunR n E ts xs ps rsv l us cs us' → cs = [] ∧ us' = us
  | [], _, _, _, _, h => h
  | g :: r, _, _, _, hno, ⟨c1, u1, c2, h1, h2, h3⟩ => by
    obtain ⟨rfl, rfl⟩ := h1.empty (slotsU_nil (hno g List.mem_cons_self))
    obtain ⟨rfl, rfl⟩ := run_none (fun g hg => hno g (List.mem_cons_of_mem _ hg)) h2
    exact ⟨h3, rfl⟩
theorem run_prio {k : Int} : ∀ {l : List Int} {us u1 u2 : List UnitT} {cs cs2 : List ChoT}, l.Pairwise (· < ·) → RunR n E ts xs ps rsv l us cs u1 → RunR n E ts (xs.filter (fun x => decide (x.urg ≤ k))) ps rsv l us cs2 u2 → cs2 = cs.take cs2.length
  | [], _, _, _, _, _, _, h, h' => by
    rw [h.1, h'.1]
    rfl
  | g :: r, us, _, _, cs, cs2, hp, ⟨c1, m1, c2, h1, h2, h3⟩, ⟨d1, m2, d2, k1, k2, k3⟩ => by
    by_cases hg : g ≤ k
    · have e := slotsU_sub (p := fun x => decide (x.urg ≤ k)) (g := g) (fun x hx => by rw [hx]; exact decide_eq_true hg) xs us ps
      obtain ⟨rfl, rfl⟩ := (k1.cast e).unique h1
      have ih := run_prio (List.pairwise_cons.1 hp).2 h2 k2
      rw [h3, k3, List.length_append, List.take_length_add_append, ← ih]
    · obtain ⟨rfl, _⟩ := run_none (fun g' hg' x hx hne => by
        have hx := (List.mem_filter.1 hx).2
        have hx := of_decide_eq_true hx
        rcases List.mem_cons.1 hg' with e | e
        · omega
        · have := (List.pairwise_cons.1 hp).1 g' e
          omega) (show RunR n E ts (xs.filter (fun x => decide (x.urg ≤ k))) ps rsv (g :: r) us cs2 _ from ⟨d1, m2, d2, k1, k2, k3⟩)
      rfl
end
end
end Go.Proofs.YtimijjhdgihobaaGreatDoor
