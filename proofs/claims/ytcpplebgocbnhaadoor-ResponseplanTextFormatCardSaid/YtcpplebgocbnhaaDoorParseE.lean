/-
  The clock: ParseDuration reads the text of a duration as that duration, and no other text.
-/
import Derived.Test.YtcpplebgocbnhaaDoorParseD
import Derived.Test.YtcpplebgocbnhaaDoorClockE
namespace Go.Proofs.YtcpplebgocbnhaaDoor
open Go.RowKit Go.Maps

theorem index_miss {c : UInt8} : ∀ {p : List UInt8}, c ∉ p → Lib.index p [c] = -1
  | [], _ => by simp [Lib.index]
  | b :: p, h => by
    have hb : c ≠ b := fun e => h (by simp [e])
    have ih := index_miss (c := c) (p := p) (fun e => h (by simp [e]))
    unfold Lib.index
    rw [ih]
    have h1 : [c].isPrefixOf (b :: p) = false := by simp [List.isPrefixOf, hb]
    rw [h1]
    rfl

theorem join_two (p q : List UInt8) (r : List (List UInt8)) : Lib.join (p :: q :: r) [32] = p ++ (([32] : List UInt8) ++ Lib.join (q :: r) [32]) := by
  rw [Lib.join_cons, Lib.join_cons]
  simp [Lib.joinTail]

theorem split_join : ∀ (ps : List (List UInt8)) (k : Nat), ps ≠ [] → (∀ p ∈ ps, (32 : UInt8) ∉ p) → ps.length ≤ k + 1 → Lib.splitK [32] 0 k (Lib.join ps [32]) = ps
  | [], _, h, _, _ => absurd rfl h
  | [p], k, _, hn, _ => by
    rw [Lib.join_one]
    cases k with
    | zero => rfl
    | succ k =>
      unfold Lib.splitK
      rw [index_miss (hn p (by simp))]
      rfl
  | p :: q :: r, k, _, hn, hk => by
    cases k with
    | zero => simp at hk
    | succ k =>
      rw [join_two]
      unfold Lib.splitK
      rw [index_at (hn p (by simp)), if_neg (by simp)]
      have ih := split_join (q :: r) k (by simp) (fun x hx => hn x (by simp at hx ⊢; right; exact hx)) (by simp at hk ⊢; omega)
      have e1 : List.drop (Int.toNat (p.length : Int) + ([32] : List UInt8).length) (p ++ (([32] : List UInt8) ++ Lib.join (q :: r) [32])) = Lib.join (q :: r) [32] := by simp
      rw [e1, ih]
      simp

theorem parts_blank (x : Int) : ∀ p ∈ parts x, (32 : UInt8) ∉ p := by
  have key : ∀ (n : Nat) (c : UInt8), c ≠ 32 → (32 : UInt8) ∉ Lib.decDigits n ++ [c] := by
    intro n c hc hm
    rcases List.mem_append.1 hm with hm | hm
    · exact not_mem_dig (dec_dig n) (by unfold isDig; decide) hm
    · exact hc (List.mem_singleton.1 hm).symm
  intro p hp
  unfold parts at hp
  rcases List.mem_append.1 hp with hp | hp
  · rcases List.mem_append.1 hp with hp | hp
    · split at hp
      · rcases List.mem_singleton.1 hp with rfl
        exact key _ _ (by decide)
      · cases hp
    · split at hp
      · rcases List.mem_singleton.1 hp with rfl
        exact key _ _ (by decide)
      · cases hp
  · split at hp
    · rcases List.mem_singleton.1 hp with rfl
      exact key _ _ (by decide)
    · cases hp

theorem parts_three (x : Int) : (parts x).length ≤ 3 := by
  unfold parts
  split <;> split <;> split <;> simp
theorem parts_room (x : Int) : (parts x).length ≤ (Lib.join (parts x) [32]).length + 1 := by
  unfold parts
  split <;> split <;> split <;> simp [Lib.join_cons, Lib.join_nil, Lib.joinTail] <;> omega

theorem four_span {x : Int} (h0 : 0 ≤ x) (hn : x ≠ 4611686018427387904) : (four (bs (span x))).map (·.data.toList) = parts x := by
  unfold four
  rw [Lib.splitB_data, bs_data, bs_size, span, if_neg hn]
  have h1 := parts_three x
  have h2 := parts_room x
  exact split_join (parts x) _ (parts_ne h0) (parts_blank x) (by omega)

theorem comp_dec {n : Int} (h0 : 0 ≤ n) {c : UInt8} {u : Int} (hu : 0 < u) (hc : ∀ l, compEnd l c = scaleOf l u) (hv : n * u ≤ 4611686018427387904) : compOf (Lib.decDigits n.toNat ++ [c]) = (n * u, true) := by
  rw [comp_snoc, hc, scale_dec hu (by rw [Int.toNat_of_nonneg h0]; exact hv), Int.toNat_of_nonneg h0]

theorem sum_parts {x : Int} (h : Time x) : sumFrom 0 (parts x) = some x := by
  unfold Time at h
  have c1 := comp_dec (n := x / 3600) (c := 104) (u := 3600) (by omega) (by omega) (fun _ => rfl) (by omega)
  have c2 := comp_dec (n := x % 3600 / 60) (c := 109) (u := 60) (by omega) (by omega) (fun _ => rfl) (by omega)
  have c3 := comp_dec (n := x % 60) (c := 115) (u := 1) (by omega) (by omega) (fun _ => rfl) (by omega)
  have pl : ∀ a b : Int, 0 ≤ a → 0 ≤ b → a + b ≤ 4611686018427387904 → plus a b = a + b := by
    intro a b _ _ _
    unfold plus hold
    omega
  unfold parts
  split <;> split <;> split <;> simp only [List.nil_append, List.append_nil, List.cons_append, sumFrom, c1, c2, c3, if_true, Option.some.injEq]
  · rw [pl 0 _ (by omega) (by omega) (by omega), pl (0 + x / 3600 * 3600) _ (by omega) (by omega) (by omega), pl _ _ (by omega) (by omega) (by omega)]
    omega
  · rw [pl 0 _ (by omega) (by omega) (by omega), pl _ _ (by omega) (by omega) (by omega)]
    omega
  · rw [pl 0 _ (by omega) (by omega) (by omega), pl _ _ (by omega) (by omega) (by omega)]
    omega
  · rw [pl 0 _ (by omega) (by omega) (by omega)]
    omega
  · rw [pl 0 _ (by omega) (by omega) (by omega), pl _ _ (by omega) (by omega) (by omega)]
    omega
  · rw [pl 0 _ (by omega) (by omega) (by omega)]
    omega
  · rw [pl 0 _ (by omega) (by omega) (by omega)]
    omega
  · omega

theorem sum_time : ∀ (L : List (List UInt8)) (d x : Int), Time d → sumFrom d L = some x → Time x
  | [], d, x, hd, h => by
    rw [sumFrom, Option.some.injEq] at h
    exact h ▸ hd
  | p :: r, d, x, _, h => by
    rw [sumFrom] at h
    split at h
    · exact sum_time r _ x (plus_time _ _) h
    · cases h

theorem span_head {x : Int} (h0 : 0 ≤ x) (hn : x ≠ 4611686018427387904) : span x ≠ neverL := by
  rw [span, if_neg hn]
  have hne := parts_ne h0
  have hd : ∀ p ∈ parts x, ∃ c r, p = c :: r ∧ isDig c := by
    have key : ∀ (n : Nat) (c : UInt8), ∃ d r, Lib.decDigits n ++ [c] = d :: r ∧ isDig d := by
      intro n c
      cases hl : Lib.decDigits n with
      | nil => exact absurd hl (dec_ne n)
      | cons d r => exact ⟨d, r ++ [c], rfl, dec_dig n d (by rw [hl]; simp)⟩
    intro p hp
    unfold parts at hp
    rcases List.mem_append.1 hp with hp | hp
    · rcases List.mem_append.1 hp with hp | hp
      · split at hp
        · rcases List.mem_singleton.1 hp with rfl
          exact key _ _
        · cases hp
      · split at hp
        · rcases List.mem_singleton.1 hp with rfl
          exact key _ _
        · cases hp
    · split at hp
      · rcases List.mem_singleton.1 hp with rfl
        exact key _ _
      · cases hp
  cases hp : parts x with
  | nil => exact absurd hp hne
  | cons p r =>
    obtain ⟨c, q, rfl, hc⟩ := hd p (by rw [hp]; simp)
    rw [Lib.join_cons]
    intro e
    rw [neverL, List.cons_append] at e
    have := (List.cons.inj e).1
    subst this
    revert hc
    unfold isDig
    decide

theorem parseD_good (x : Int) (hx : Time x) (w : World) (hr : Ready w) :
    Calls Tryd.prog 22 #[.string (bs (span x))] w fun e w' => e = .returned (.tuple #[.int .i64 x, .int .i64 0]) ∧ Below w.heap.size w w' := by
  by_cases hn : x = 4611686018427387904
  · subst hn
    have hnn : ((bs (span 4611686018427387904)).toList == [110, 101, 118, 101, 114]) = true := by
      rw [toL_bs, beq_iff_eq]
      rfl
    go_enter Tryd.func22, Tryd.ntmps22
    go_wp2_with fail
    go_ret2
    exact ⟨rfl, Below.refl _ _⟩
  · have hb := hx
    unfold Time at hb
    have hl := join_parts_len x hb.1 hb.2
    refine (parseD_walk (bs (span x)) ?_ ?_ w hr).mono ?_
    · rw [bs_size, span, if_neg hn]
      omega
    · rw [toL_bs, beq_eq_false_iff_ne]
      exact span_head hb.1 hn
    · rintro e w' ⟨rfl, hb⟩
      refine ⟨?_, hb⟩
      have e : durOf (bs (span x)).data.toList ((four (bs (span x))).map (·.data.toList)) = (x, 0) := by
        rw [four_span (by omega) hn, durOf, if_pos (parts_three x), sum_parts hx]
        simp only
        rw [bs_data, if_pos rfl]
      rw [e]

theorem parseD_bad (s : ByteArray) (hs : s.size ≤ 1099511627) (hno : ∀ x, Time x → bs (span x) ≠ s) (w : World) (hr : Ready w) :
    Calls Tryd.prog 22 #[.string s] w fun e w' => e = .returned (.tuple #[.int .i64 0, .int .i64 2]) ∧ Below w.heap.size w w' := by
  have hn : (s.toList == [110, 101, 118, 101, 114]) = false := by
    rw [beq_eq_false_iff_ne]
    exact fun e => hno 4611686018427387904 (by unfold Time; omega) (toL_inj ((toL_bs _).trans e.symm))
  refine (parseD_walk s hs hn w hr).mono ?_
  rintro e w' ⟨rfl, hb⟩
  refine ⟨?_, hb⟩
  have e : durOf s.data.toList ((four s).map (·.data.toList)) = (0, 2) := by
    unfold durOf
    split
    · rename_i d hd
      split at hd
      · rw [if_neg]
        intro q
        refine hno d (sum_time _ 0 d (by unfold Time; omega) hd) ?_
        rw [q]
        exact (bs_of s).symm
      · cases hd
    · rfl
  rw [e]

end Go.Proofs.YtcpplebgocbnhaaDoor
