/-
  Words of a line: cut at blanks; numbers and names of kinds read back (config.number, config.numbers, config.kindNumber).
-/
import Derived.Test.YtloacoalmfaceaaGreatDoorFmt6
import Derived.Lib.SplitLaws
namespace Go.Proofs.YtloacoalmfaceaaGreatDoor
open Go.RowKit Go.Maps Go.Shelf

theorem index_miss {c : UInt8} : ∀ {p : List UInt8}, c ∉ p → Lib.index p [c] = -1
  | [], _ => by simp [Lib.index]
  | b :: p, h => by
    have hb : c ≠ b := fun e => h (by simp [e])
    have ih := index_miss (c := c) (p := p) (fun e => h (by simp [e]))
    unfold Lib.index
    rw [ih]
    have h1 : [c].isPrefixOf (b :: p) = false := by simp [List.isPrefixOf, hb]
    rw [h1]
    rfl
theorem join_two (p q : List UInt8) (r : List (List UInt8)) : Lib.join (p :: q :: r) [32] = p ++ (([32] : List UInt8) ++ Lib.join (q :: r) [32]) := by
  rw [Lib.join_cons, Lib.join_cons]
  simp [Lib.joinTail]
theorem split_join : ∀ (ps : List (List UInt8)) (k : Nat), ps ≠ [] → (∀ p ∈ ps, (32 : UInt8) ∉ p) → ps.length ≤ k + 1 → Lib.splitK [32] 0 k (Lib.join ps [32]) = ps
  | [], _, h, _, _ => absurd rfl h
  | [p], k, _, hn, _ => by
    rw [Lib.join_one]
    cases k with
    | zero => rfl
    | succ k =>
      unfold Lib.splitK
      rw [index_miss (hn p (by simp))]
      rfl
  | p :: q :: r, k, _, hn, hk => by
    cases k with
    | zero => simp at hk
    | succ k =>
      rw [join_two]
      unfold Lib.splitK
      rw [index_at (hn p (by simp)), if_neg (by simp)]
      have ih := split_join (q :: r) k (by simp) (fun x hx => hn x (by simp at hx ⊢; right; exact hx)) (by simp at hk ⊢; omega)
      have e1 : List.drop (Int.toNat (p.length : Int) + ([32] : List UInt8).length) (p ++ (([32] : List UInt8) ++ Lib.join (q :: r) [32])) = Lib.join (q :: r) [32] := by simp
      rw [e1, ih]
      simp
theorem count_join : ∀ (ps : List (List UInt8)), ps ≠ [] → (∀ p ∈ ps, (32 : UInt8) ∉ p) → Lib.count (Lib.join ps [32]) [32] + 1 = ps.length
  | [], h, _ => absurd rfl h
  | [p], _, hn => by
    rw [Lib.join_one, Lib.count_one, List.count_eq_zero_of_not_mem (hn p (by simp))]
    rfl
  | p :: q :: r, _, hn => by
    have ih := count_join (q :: r) (by simp) (fun x hx => hn x (by simp at hx ⊢; right; exact hx))
    rw [Lib.count_one] at ih ⊢
    rw [join_two, List.count_append, List.count_append, List.count_eq_zero_of_not_mem (hn p (by simp))]
    simp only [List.length_cons] at ih ⊢
    simp
    omega
theorem split_words (ws : List (List UInt8)) (h0 : ws ≠ []) (hn : ∀ p ∈ ws, (32 : UInt8) ∉ p) :
    Lib.countB (bs (Lib.join ws [32])) ⟨#[32]⟩ + 1 = ws.length ∧ (Lib.splitB ⟨#[32]⟩ 0 (Lib.countB (bs (Lib.join ws [32])) ⟨#[32]⟩) (bs (Lib.join ws [32]))).map Value.string = ws.map strV := by
  have hc : Lib.countB (bs (Lib.join ws [32])) ⟨#[32]⟩ = Lib.count (Lib.join ws [32]) [32] := by
    show Lib.count _ _ = _
    rw [bs_data]
  have h1 := count_join ws h0 hn
  refine ⟨by rw [hc]; exact h1, ?_⟩
  have h2 := Lib.splitB_data ⟨#[32]⟩ 0 (Lib.countB (bs (Lib.join ws [32])) ⟨#[32]⟩) (bs (Lib.join ws [32]))
  rw [bs_data] at h2
  have h3 := split_join ws (Lib.countB (bs (Lib.join ws [32])) ⟨#[32]⟩) h0 hn (by rw [hc]; omega)
  have h4 : (Lib.splitB ⟨#[32]⟩ 0 (Lib.countB (bs (Lib.join ws [32])) ⟨#[32]⟩) (bs (Lib.join ws [32]))).map (·.data.toList) = ws := h2.trans h3
  have h5 : ∀ l : List ByteArray, l.map Value.string = (l.map (·.data.toList)).map strV := fun l => by
    rw [List.map_map]
    exact List.map_congr_left (fun x _ => by show Value.string x = .string (bs x.data.toList); rw [bs_of'])
  rw [h5, h4]
theorem eq_toL {s : ByteArray} {l : List UInt8} : (s.toList == l) = decide (s.data.toList = l) := by
  rw [ByteArray.toList_eq, Bool.eq_iff_iff]
  simp

def kindNum (l : List UInt8) : Int := if l = [98, 97, 115, 105, 99] then 1 else if l = [100, 111, 99, 116, 111, 114] then 2 else if l = [99, 97, 114] then 3 else if l = [97, 105, 114] then 4 else 0
theorem kn0 (w : World) : (Instr.index 64 (.agg #[.string ⟨#[98, 97, 115, 105, 99]⟩, .string ⟨#[100, 111, 99, 116, 111, 114]⟩, .string ⟨#[99, 97, 114]⟩, .string ⟨#[97, 105, 114]⟩]) (.int .i64 0)).run Tryz.prog w = .ok (.string ⟨#[98, 97, 115, 105, 99]⟩) w := by kernel_rfl
theorem kn1 (w : World) : (Instr.index 64 (.agg #[.string ⟨#[98, 97, 115, 105, 99]⟩, .string ⟨#[100, 111, 99, 116, 111, 114]⟩, .string ⟨#[99, 97, 114]⟩, .string ⟨#[97, 105, 114]⟩]) (.int .i64 1)).run Tryz.prog w = .ok (.string ⟨#[100, 111, 99, 116, 111, 114]⟩) w := by kernel_rfl
theorem kn2 (w : World) : (Instr.index 64 (.agg #[.string ⟨#[98, 97, 115, 105, 99]⟩, .string ⟨#[100, 111, 99, 116, 111, 114]⟩, .string ⟨#[99, 97, 114]⟩, .string ⟨#[97, 105, 114]⟩]) (.int .i64 2)).run Tryz.prog w = .ok (.string ⟨#[99, 97, 114]⟩) w := by kernel_rfl
theorem kn3 (w : World) : (Instr.index 64 (.agg #[.string ⟨#[98, 97, 115, 105, 99]⟩, .string ⟨#[100, 111, 99, 116, 111, 114]⟩, .string ⟨#[99, 97, 114]⟩, .string ⟨#[97, 105, 114]⟩]) (.int .i64 3)).run Tryz.prog w = .ok (.string ⟨#[97, 105, 114]⟩) w := by kernel_rfl

/-- the text is none of the first k names. -/
def Miss (l : List UInt8) (k : Nat) : Prop := (1 ≤ k → l ≠ [98, 97, 115, 105, 99]) ∧ (2 ≤ k → l ≠ [100, 111, 99, 116, 111, 114]) ∧ (3 ≤ k → l ≠ [99, 97, 114]) ∧ (4 ≤ k → l ≠ [97, 105, 114])
theorem flip_eq (l : List UInt8) (s : ByteArray) : (l == s.toList) = decide (s.data.toList = l) := by
  rw [ByteArray.toList_eq, Bool.eq_iff_iff, beq_iff_eq, decide_eq_true_eq]
  exact ⟨Eq.symm, Eq.symm⟩

set_option maxRecDepth 100000 in
theorem kindNumber_any (s : ByteArray) (w : World) (hn : NamesAt w) :
    Calls Tryz.prog 89 #[.string s] w fun e w' => e = .returned (.int .i64 (kindNum s.data.toList)) ∧ w = w' := by
  obtain ⟨n0, n1, n2, n3⟩ := hn
  have HK : Hid (kindNum s.data.toList = if s.data.toList = [98, 97, 115, 105, 99] then 1 else if s.data.toList = [100, 111, 99, 116, 111, 114] then 2 else if s.data.toList = [99, 97, 114] then 3 else if s.data.toList = [97, 105, 114] then 4 else 0) := rfl
  generalize kindNum s.data.toList = r at *
  go_enter Tryz.func89, Tryz.ntmps89
  go_wp2_with fail
  go_loop [6] (fun i => ∃ k : Nat, k ≤ 4 ∧ i = .int .i64 k ∧ Miss s.data.toList k) (fun i => 4 - (intOf i).toNat)
  case atStart => exact ⟨0, by omega, rfl, by unfold Miss; exact ⟨fun h => by omega, fun h => by omega, fun h => by omega, fun h => by omega⟩⟩
  case round =>
    obtain ⟨k, hk, rfl, hmiss⟩ := hrel
    have HM := Lib.hid hmiss
    clear hmiss
    have hk4 : k = 0 ∨ k = 1 ∨ k = 2 ∨ k = 3 ∨ k = 4 := by omega
    rcases hk4 with rfl | rfl | rfl | rfl | rfl
    · have hi := kn0 w
      have e1 := flip_eq [98, 97, 115, 105, 99] s
      by_cases h : s.data.toList = [98, 97, 115, 105, 99]
      · rw [decide_eq_true h] at e1
        have HR : Hid (r = 1) := by show _ = _; rw [HK.out, if_pos h]
        clear h
        go_wp2_with fail
        go_ret
        exact ⟨ret_int HR.out.symm, rfl⟩
      · rw [decide_eq_false h] at e1
        have HN : Hid (Miss s.data.toList 1) := ⟨fun _ => h, fun h => by omega, fun h => by omega, fun h => by omega⟩
        clear h
        go_wp2_with fail
        go_round
        case rel => exact ⟨1, by omega, rfl, HN.out⟩
        case measure => simp [intOf]
    · have hi := kn1 w
      have e1 := flip_eq [100, 111, 99, 116, 111, 114] s
      by_cases h : s.data.toList = [100, 111, 99, 116, 111, 114]
      · rw [decide_eq_true h] at e1
        have HR : Hid (r = 2) := by show _ = _; rw [HK.out, if_neg (HM.out.1 (by omega)), if_pos h]
        clear h
        go_wp2_with fail
        go_ret
        exact ⟨ret_int HR.out.symm, rfl⟩
      · rw [decide_eq_false h] at e1
        have HN : Hid (Miss s.data.toList 2) := ⟨fun _ => HM.out.1 (by omega), fun _ => h, fun h => by omega, fun h => by omega⟩
        clear h
        go_wp2_with fail
        go_round
        case rel => exact ⟨2, by omega, rfl, HN.out⟩
        case measure => simp [intOf]
    · have hi := kn2 w
      have e1 := flip_eq [99, 97, 114] s
      by_cases h : s.data.toList = [99, 97, 114]
      · rw [decide_eq_true h] at e1
        have HR : Hid (r = 3) := by show _ = _; rw [HK.out, if_neg (HM.out.1 (by omega)), if_neg (HM.out.2.1 (by omega)), if_pos h]
        clear h
        go_wp2_with fail
        go_ret
        exact ⟨ret_int HR.out.symm, rfl⟩
      · rw [decide_eq_false h] at e1
        have HN : Hid (Miss s.data.toList 3) := ⟨fun _ => HM.out.1 (by omega), fun _ => HM.out.2.1 (by omega), fun _ => h, fun h => by omega⟩
        clear h
        go_wp2_with fail
        go_round
        case rel => exact ⟨3, by omega, rfl, HN.out⟩
        case measure => simp [intOf]
    · have hi := kn3 w
      have e1 := flip_eq [97, 105, 114] s
      by_cases h : s.data.toList = [97, 105, 114]
      · rw [decide_eq_true h] at e1
        have HR : Hid (r = 4) := by show _ = _; rw [HK.out, if_neg (HM.out.1 (by omega)), if_neg (HM.out.2.1 (by omega)), if_neg (HM.out.2.2.1 (by omega)), if_pos h]
        clear h
        go_wp2_with fail
        go_ret
        exact ⟨ret_int HR.out.symm, rfl⟩
      · rw [decide_eq_false h] at e1
        have HN : Hid (Miss s.data.toList 4) := ⟨fun _ => HM.out.1 (by omega), fun _ => HM.out.2.1 (by omega), fun _ => HM.out.2.2.1 (by omega), fun _ => h⟩
        clear h
        go_wp2_with fail
        go_round
        case rel => exact ⟨4, by omega, rfl, HN.out⟩
        case measure => simp [intOf]
    · have HR : Hid (r = 0) := by show _ = _; rw [HK.out, if_neg (HM.out.1 (by omega)), if_neg (HM.out.2.1 (by omega)), if_neg (HM.out.2.2.1 (by omega)), if_neg (HM.out.2.2.2 (by omega))]
      go_wp2_with fail
      go_ret
      exact ⟨ret_int HR.out.symm, rfl⟩
theorem num_name {k : Int} (h : KindOk k) : kindNum (kindName k) = k := by
  unfold KindOk at h
  have : k = 1 ∨ k = 2 ∨ k = 3 ∨ k = 4 := by omega
  rcases this with rfl | rfl | rfl | rfl <;> decide
end Go.Proofs.YtloacoalmfaceaaGreatDoor
