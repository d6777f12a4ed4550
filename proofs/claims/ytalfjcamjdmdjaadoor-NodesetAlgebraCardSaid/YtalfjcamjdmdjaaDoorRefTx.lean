/-
  samaritanref02: Digits, Text.
-/
import Derived.Test.YtalfjcamjdmdjaaDoorTextL
import Derived.Test.YtalfjcamjdmdjaaDoorRefOr
import Derived.Deep.QuietTactic
import Derived.BigQuiet
import Derived.IntWalk
namespace Go.Proofs.YtalfjcamjdmdjaaDoor
open Go.RowKit

theorem ten_slice {n : Nat} (h : n < 10) : (⟨#[48, 49, 50, 51, 52, 53, 54, 55, 56, 57]⟩ : ByteArray).extract n (n + 1) = bs (Lib.decDigits n) := by
  rw [dec_small h]
  obtain rfl | rfl | rfl | rfl | rfl | rfl | rfl | rfl | rfl | rfl : n = 0 ∨ n = 1 ∨ n = 2 ∨ n = 3 ∨ n = 4 ∨ n = 5 ∨ n = 6 ∨ n = 7 ∨ n = 8 ∨ n = 9 := by omega
  all_goals decide
set_option maxRecDepth 100000 in
theorem digits_go : ∀ (k : Nat) (n : Int) (_ : 0 ≤ n) (_ : n.toNat < k) (_ : n < 4096) (w : World), Calls Tryd.prog 42 #[.int .i64 n] w fun e w' => e = .returned (.string (bs (Lib.decDigits n.toNat))) ∧ ∃ m, w' = w.drewN m := by
  intro k
  induction k with
  | zero => intro n _ h; omega
  | succ k ih =>
    intro n h0 hk hn w
    by_cases h : n < 10
    · go_enter Tryd.func42, Tryd.ntmps42
      go_wp2_with fail
      go_ret
      refine ⟨ret_str ?_, 0, rfl⟩
      have e1 : (n + 1).toNat = n.toNat + 1 := by omega
      rw [e1]
      exact ten_slice (by omega)
    · have HIH := Lib.hid (fun W : World => ih (n / 10) (by omega) (by omega) (by omega) W)
      have l1 : (bs (Lib.decDigits (n / 10).toNat)).size ≤ 4 := by
        rw [bs_size]
        exact dec_len4 (by omega)
      have m0 : 0 ≤ n % 10 := by omega
      have m1 : n % 10 < 10 := by omega
      have HM := Lib.hid (show (bs (Lib.decDigits (n / 10).toNat) ++ (⟨#[48, 49, 50, 51, 52, 53, 54, 55, 56, 57]⟩ : ByteArray).extract (n % 10).toNat (n % 10 + 1).toNat) = bs (Lib.decDigits n.toNat) by
        rw [show (n % 10 + 1).toNat = (n % 10).toNat + 1 by omega, ten_slice (by omega), bs_append, dec_big (n := n.toNat) (by omega), show (n / 10).toNat = n.toNat / 10 by omega, show (n % 10).toNat = n.toNat % 10 by omega, dec_small (n := n.toNat % 10) (by omega)])
      have t0 : n.tmod 10 = n % 10 := Int.tmod_eq_emod_of_nonneg h0
      have t6 : n.tdiv 10 = n / 10 := Int.tdiv_eq_ediv_of_nonneg h0
      have t7 : IntKind.i64.wrap (n / 10) = n / 10 := IntWalk.i64_in _ (by omega)
      have t1 : IntKind.i64.wrap (n % 10) = n % 10 := IntWalk.i64_in _ (by omega)
      have t2 : IntKind.i64.wrap (n % 10 + 1) = n % 10 + 1 := IntWalk.i64_in _ (by omega)
      have t3 : n % 10 ≤ n % 10 + 1 := by omega
      have t4 : n % 10 + 1 ≤ 10 := by omega
      have t5 : 0 ≤ n % 10 + 1 := by omega
      clear ih hn hk
      go_enter Tryd.func42, Tryd.ntmps42
      go_wp2_with fail
      go_quiet ((go_at_call 42; exact Calls.quiet_of (HIH.out _)))
      go_wp2_with fail
      go_ret
      exact ⟨ret_str HM.out, _, rfl⟩
theorem digits_any (n : Nat) (hn : n < 4096) (w : World) : Calls Tryd.prog 42 #[.int .i64 (n : Int)] w fun e w' => e = .returned (.string (bs (Lib.decDigits n))) ∧ Below w.heap.size w w' := by
  refine (digits_go (n + 1) n (by omega) (by omega) (by omega) w).mono ?_
  rintro e w' ⟨rfl, m, rfl⟩
  exact ⟨rfl, below_drewN (Below.refl _ _) _⟩

/-- runs that stand for the first i of L. -/
structure TxS (L : List Nat) (R : List (Nat × Nat)) (i : Nat) : Prop where
  good : goodR (-2) R
  cov : ∀ m, m ∈ L.take i ↔ ∃ r ∈ R, r.1 ≤ m ∧ m ≤ r.2
  next : ∀ x, L[i]? = some x → lastR (-2) R + 1 < (x : Int)
  num : R.length ≤ i
theorem TxS.start (L : List Nat) : TxS L [] 0 := ⟨trivial, by simp, fun x _ => by show (-2 : Int) + 1 < x; omega, Nat.le_refl _⟩
theorem mem_take_at {L : List Nat} {i m : Nat} : m ∈ L.take i ↔ ∃ j, j < i ∧ L[j]? = some m := by
  rw [List.mem_iff_getElem?]
  constructor
  · rintro ⟨j, h⟩
    rw [List.getElem?_take] at h
    split at h
    · exact ⟨j, ‹_›, h⟩
    · cases h
  · rintro ⟨j, hj, h⟩
    exact ⟨j, by rw [List.getElem?_take, if_pos hj]; exact h⟩
theorem TxS.step {L : List Nat} {R : List (Nat × Nat)} {i k f : Nat} (h : TxS L R i) (hu : Up L) (h4 : ∀ n ∈ L, n < 4096) (hik : i ≤ k) (hrun : ∀ j, i ≤ j → j ≤ k → L[j]? = some (f + (j - i)))
    (hend : ∀ y, L[k + 1]? = some y → y ≠ f + (k - i) + 1) : TxS L (R ++ [(f, f + (k - i))]) (k + 1) := by
  have hf : L[i]? = some f := by have := hrun i (Nat.le_refl _) hik; rwa [Nat.sub_self, Nat.add_zero] at this
  have hk := hrun k hik (Nat.le_refl _)
  refine ⟨(goodR_snoc _ _ _).2 ⟨h.good, h.next f hf, Nat.le_add_right _ _, h4 _ (List.mem_of_getElem? hk)⟩, fun m => ?_, fun y hy => ?_, by rw [List.length_append, List.length_singleton]; have := h.num; omega⟩
  · rw [mem_take_at]
    constructor
    · rintro ⟨j, hj, hm⟩
      by_cases q : j < i
      · obtain ⟨r, hr, hh⟩ := (h.cov m).1 (mem_take_at.2 ⟨j, q, hm⟩)
        exact ⟨r, List.mem_append.2 (.inl hr), hh⟩
      · rw [hrun j (by omega) (by omega)] at hm
        injection hm with hm
        exact ⟨_, List.mem_append.2 (.inr (List.mem_singleton.2 rfl)), by dsimp only; omega⟩
    · rintro ⟨r, hr, hh⟩
      rcases List.mem_append.1 hr with hr | hr
      · obtain ⟨j, hj, hm⟩ := mem_take_at.1 ((h.cov m).2 ⟨r, hr, hh⟩)
        exact ⟨j, by omega, hm⟩
      · rw [List.mem_singleton.1 hr] at hh
        dsimp only at hh
        refine ⟨i + (m - f), by omega, ?_⟩
        rw [hrun _ (by omega) (by omega)]
        congr 1
        omega
  · rw [lastR_snoc]
    dsimp only
    have h1 : f + (k - i) < y := by
      obtain ⟨a1, a2⟩ := List.getElem?_eq_some_iff.1 hk
      obtain ⟨b1, b2⟩ := List.getElem?_eq_some_iff.1 hy
      rw [← a2, ← b2]
      exact List.pairwise_iff_getElem.1 hu k (k + 1) a1 b1 (by omega)
    have := hend y hy
    omega
theorem TxS.fin {L : List Nat} {R : List (Nat × Nat)} (h : TxS L R L.length) (hu : Up L) (h4 : ∀ n ∈ L, n < 4096) : Lib.join (textR R) [44] = textL L := by
  have e : R = runsN L := good_ext h.good (runs_of hu h4).1 fun m => by
    rw [← (runs_of hu h4).2 m, ← h.cov m, List.take_length]
  rw [e, runs_text]
  rfl
def txt (R : List (Nat × Nat)) : List UInt8 := Lib.join (textR R) [44]
theorem txt_snoc : ∀ (R : List (Nat × Nat)) (r : Nat × Nat), R ≠ [] → txt (R ++ [r]) = txt R ++ [44] ++ runT r.1 r.2
  | [], _, h => absurd rfl h
  | [q], r, _ => by
    show Lib.join [runT q.1 q.2, runT r.1 r.2] [44] = Lib.join [runT q.1 q.2] [44] ++ [44] ++ runT r.1 r.2
    rw [join_two, Lib.join_one, Lib.join_one, List.append_assoc]
  | q :: p :: R, r, _ => by
    have ih := txt_snoc (p :: R) r (by simp)
    unfold txt textR at ih ⊢
    rw [List.cons_append, List.map_cons, List.cons_append, List.map_cons, join_two]
    rw [List.cons_append, List.map_cons] at ih
    rw [ih]
    simp only [List.map_cons, join_two, List.append_assoc]
theorem txt_one (r : Nat × Nat) : txt [r] = runT r.1 r.2 := Lib.join_one _ _
theorem runT_ne (a b : Nat) : runT a b ≠ [] := by
  unfold runT
  split
  · exact dec_ne _
  · simp
theorem txt_ne {R : List (Nat × Nat)} (h : R ≠ []) : txt R ≠ [] := by
  rcases List.eq_nil_or_concat R with rfl | ⟨S, r, rfl⟩
  · exact absurd rfl h
  · rw [List.concat_eq_append]
    cases S with
    | nil => rw [List.nil_append, txt_one]; exact runT_ne _ _
    | cons q S =>
      rw [txt_snoc _ _ (by simp)]
      simp
theorem txt_len : ∀ (n : Nat) (R : List (Nat × Nat)), R.length = n → goodR (-2) R → (txt R).length ≤ 10 * n
  | 0, R, h, _ => by rw [List.eq_nil_of_length_eq_zero h]; simp [txt, textR, Lib.join_nil]
  | n + 1, R, h, hg => by
    rcases List.eq_nil_or_concat R with rfl | ⟨S, r, rfl⟩
    · simp at h
    · rw [List.concat_eq_append] at h hg ⊢
      obtain ⟨g1, g2, g3, g4⟩ := (goodR_snoc _ _ _).1 hg
      have hS : S.length = n := by rw [List.length_append] at h; simp at h; exact h
      have ih := txt_len n S hS g1
      have hr : (runT r.1 r.2).length ≤ 9 := runT_len (by omega) g4
      by_cases hn : S = []
      · rw [hn, List.nil_append, txt_one]
        omega
      · rw [txt_snoc _ _ hn]
        simp only [List.length_append, List.length_singleton]
        omega
end Go.Proofs.YtalfjcamjdmdjaaDoor
