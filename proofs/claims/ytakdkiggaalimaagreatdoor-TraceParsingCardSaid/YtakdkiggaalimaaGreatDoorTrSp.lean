/-
  strings.Split at a blank: the words of a line.
-/
import Derived.Test.YtakdkiggaalimaaGreatDoorTrRd
import Derived.Lib.SplitLaws
namespace Go.Proofs.YtakdkiggaalimaaGreatDoor
open Go.RowKit Go.Maps

theorem index_at {c : UInt8} {t r : List UInt8} : ∀ {p : List UInt8}, c ∉ p → Lib.index (p ++ ((c :: t) ++ r)) (c :: t) = p.length
  | [], _ => by
    simp [Lib.index, List.isPrefixOf]
  | b :: p, h => by
    have hb : c ≠ b := fun e => h (by simp [e])
    have ih := index_at (c := c) (t := t) (r := r) (p := p) (fun e => h (by simp [e]))
    rw [List.cons_append]
    unfold Lib.index
    rw [ih]
    have h1 : (c :: t).isPrefixOf (b :: (p ++ (c :: t ++ r))) = false := by simp [List.isPrefixOf, hb]
    rw [h1]
    simp only [Bool.false_eq_true, if_false, List.length_cons]
    rw [if_neg (by simp)]
    omega
theorem bs_of' (s : ByteArray) : bs s.data.toList = s := by
  unfold bs
  cases s
  rfl
theorem index_miss {c : UInt8} : ∀ {p : List UInt8}, c ∉ p → Lib.index p [c] = -1
  | [], _ => by simp [Lib.index]
  | b :: p, h => by
    have hb : c ≠ b := fun e => h (by simp [e])
    have ih := index_miss (c := c) (p := p) (fun e => h (by simp [e]))
    unfold Lib.index
    rw [ih]
    have h1 : [c].isPrefixOf (b :: p) = false := by simp [List.isPrefixOf, hb]
    rw [h1]
    rfl
theorem join_two (p q : List UInt8) (r : List (List UInt8)) : Lib.join (p :: q :: r) [32] = p ++ (([32] : List UInt8) ++ Lib.join (q :: r) [32]) := by
  rw [Lib.join_cons, Lib.join_cons]
  simp [Lib.joinTail]
theorem split_join : ∀ (ps : List (List UInt8)) (k : Nat), ps ≠ [] → (∀ p ∈ ps, (32 : UInt8) ∉ p) → ps.length ≤ k + 1 → Lib.splitK [32] 0 k (Lib.join ps [32]) = ps
  | [], _, h, _, _ => absurd rfl h
  | [p], k, _, hn, _ => by
    rw [Lib.join_one]
    cases k with
    | zero => rfl
    | succ k =>
      unfold Lib.splitK
      rw [index_miss (hn p (by simp))]
      rfl
  | p :: q :: r, k, _, hn, hk => by
    cases k with
    | zero => simp at hk
    | succ k =>
      rw [join_two]
      unfold Lib.splitK
      rw [index_at (hn p (by simp)), if_neg (by simp)]
      have ih := split_join (q :: r) k (by simp) (fun x hx => hn x (by simp at hx ⊢; right; exact hx)) (by simp at hk ⊢; omega)
      have e1 : List.drop (Int.toNat (p.length : Int) + ([32] : List UInt8).length) (p ++ (([32] : List UInt8) ++ Lib.join (q :: r) [32])) = Lib.join (q :: r) [32] := by simp
      rw [e1, ih]
      simp
theorem count_join : ∀ (ps : List (List UInt8)), ps ≠ [] → (∀ p ∈ ps, (32 : UInt8) ∉ p) → Lib.count (Lib.join ps [32]) [32] + 1 = ps.length
  | [], h, _ => absurd rfl h
  | [p], _, hn => by
    rw [Lib.join_one, Lib.count_one, List.count_eq_zero_of_not_mem (hn p (by simp))]
    rfl
  | p :: q :: r, _, hn => by
    have ih := count_join (q :: r) (by simp) (fun x hx => hn x (by simp at hx ⊢; right; exact hx))
    rw [Lib.count_one] at ih ⊢
    rw [join_two, List.count_append, List.count_append, List.count_eq_zero_of_not_mem (hn p (by simp))]
    simp only [List.length_cons] at ih ⊢
    simp
    omega
theorem split_words (ws : List (List UInt8)) (h0 : ws ≠ []) (hn : ∀ p ∈ ws, (32 : UInt8) ∉ p) :
    Lib.countB (bs (Lib.join ws [32])) ⟨#[32]⟩ + 1 = ws.length ∧ (Lib.splitB ⟨#[32]⟩ 0 (Lib.countB (bs (Lib.join ws [32])) ⟨#[32]⟩) (bs (Lib.join ws [32]))).map Value.string = ws.map wdV := by
  have hc : Lib.countB (bs (Lib.join ws [32])) ⟨#[32]⟩ = Lib.count (Lib.join ws [32]) [32] := by
    show Lib.count _ _ = _
    rw [bs_data]
  have h1 := count_join ws h0 hn
  refine ⟨by rw [hc]; exact h1, ?_⟩
  have h2 := Lib.splitB_data ⟨#[32]⟩ 0 (Lib.countB (bs (Lib.join ws [32])) ⟨#[32]⟩) (bs (Lib.join ws [32]))
  rw [bs_data] at h2
  have h3 := split_join ws (Lib.countB (bs (Lib.join ws [32])) ⟨#[32]⟩) h0 hn (by rw [hc]; omega)
  have h4 : (Lib.splitB ⟨#[32]⟩ 0 (Lib.countB (bs (Lib.join ws [32])) ⟨#[32]⟩) (bs (Lib.join ws [32]))).map (·.data.toList) = ws := h2.trans h3
  have h5 : ∀ l : List ByteArray, l.map Value.string = (l.map (·.data.toList)).map wdV := fun l => by
    rw [List.map_map]
    exact List.map_congr_left (fun x _ => by show Value.string x = .string (bs x.data.toList); rw [bs_of'])
  rw [h5, h4]
theorem split_any (s : Wd) (hl : s.length ≤ 65536) (W : World) (hr : Ready W) :
    Calls Tryz.prog 27 #[.string (bs s), .string ⟨#[32]⟩] W fun e w' => e = .returned (.slice (some ⟨W.heap.size, 0, none⟩) (wordsL s).length (wordsL s).length) ∧ w' = W.alloc (.cells ((wordsL s).map wdV).toArray 9) := by
  obtain ⟨m, hm⟩ := hr.most
  obtain ⟨h1, h2⟩ := split_words (wordsL s) (wordsL_ne s) (words_no s)
  rw [lineW_join, line_words] at h1 h2
  have h := Tryz.strings_Split (bs s) ⟨#[32]⟩ m W (by rw [bs_size]; omega) hm (by decide)
  rw [h1, h2] at h
  exact h
theorem word_len {s w : Wd} (h : w ∈ wordsL s) : w.length ≤ s.length := by
  have := lineW_len h
  rwa [line_words] at this
end Go.Proofs.YtakdkiggaalimaaGreatDoor
