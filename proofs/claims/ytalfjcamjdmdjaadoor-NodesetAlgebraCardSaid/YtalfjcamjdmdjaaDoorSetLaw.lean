/-
  Plain: what the laws of samaritanlaw02 want of nodesI, hasB, mixW; Parse of a text that String gave.
-/
import Derived.Test.YtalfjcamjdmdjaaDoorRefPb
import Derived.Test.YtalfjcamjdmdjaaDoorUnion
import Derived.Test.YtalfjcamjdmdjaaDoorMeet
import Derived.Test.YtalfjcamjdmdjaaDoorLess
import Derived.Test.YtalfjcamjdmdjaaDoorEq
import Derived.Test.YtalfjcamjdmdjaaDoorRefU
import Derived.Test.YtalfjcamjdmdjaaDoorEach
namespace Go.Proofs.YtalfjcamjdmdjaaDoor
open Go.RowKit

theorem nodes_4 {V : List Nat} (h : Wds V) : ∀ n ∈ nodesW V, n < 4096 := fun n hn => by
  have := nodes_lt hn
  rw [h.len] at this
  exact this
theorem nodes_le {V : List Nat} (h : Wds V) : (nodesW V).length ≤ 4096 := by
  rw [nodes_len]
  have := popW_le V
  rw [h.len] at this
  exact this
theorem nodesI_length (V : List Nat) : (nodesI V).length = (nodesW V).length := by unfold nodesI; rw [List.length_map]
theorem nodesI_le {V : List Nat} (h : Wds V) : (nodesI V).length ≤ 4096 := by rw [nodesI_length]; exact nodes_le h
theorem hasB_iff {V : List Nat} (h : Wds V) (n : Int) : hasB V n = true ↔ n ∈ nodesI V := by
  rw [mem_nodesI, mem_nodes]
  unfold hasB
  simp only [Bool.and_eq_true, decide_eq_true_eq]
  constructor
  · rintro ⟨⟨a, b⟩, c⟩
    exact ⟨a, c⟩
  · rintro ⟨a, c⟩
    have := has_lt c
    rw [h.len] at this
    exact ⟨⟨a, by omega⟩, c⟩
theorem nodesI_has {V : List Nat} (h : Wds V) (n : Int) : (nodesI V).contains n = hasB V n := by
  rw [Bool.eq_iff_iff, hasB_iff h, List.contains_iff_mem]
theorem nodesI_up_to (z : Int) : nodesI (ofW (upI (top z))) = upI (top z) := by
  refine intl_ext (nodesI_up _) ?_ fun m => ?_
  · unfold upI
    exact List.pairwise_lt_range.map _ (fun a b h => by simpa using h)
  · have ht := top_le z
    rw [mem_nodesI, mem_of]
    constructor
    · rintro ⟨a, b, c⟩
      rwa [Int.toNat_of_nonneg a] at c
    · intro h
      have h' := h
      unfold upI at h'
      obtain ⟨k, hk, rfl⟩ := List.mem_map.1 h'
      have hk' := List.mem_range.1 hk
      refine ⟨by simp, ?_, ?_⟩
      · simp only [Int.ofNat_eq_natCast, Int.toNat_natCast]
        omega
      · simpa using h
theorem nodesI_inj {V W : List Nat} (hV : Wds V) (hW : Wds W) (h : nodesI V = nodesI W) : V = W := by
  refine words_ext hV hW (up_ext (nodes_up _) (nodes_up _) fun m => ?_)
  have h1 : (m : Int) ∈ nodesI V ↔ (m : Int) ∈ nodesI W := by rw [h]
  rw [mem_nodesI, mem_nodesI] at h1
  simpa using h1
theorem nodesI_eq {V W : List Nat} (hV : Wds V) (hW : Wds W) : decide (nodesI V = nodesI W) = (V == W) := by
  rw [Bool.eq_iff_iff, decide_eq_true_eq, beq_iff_eq]
  exact ⟨nodesI_inj hV hW, fun e => by rw [e]⟩
theorem pstep_len (st : PSt0) (n : Nat) : (pEnd (pStep st n)).length ≤ (pEnd st).length + 1 := by
  obtain ⟨acc, r⟩ := st
  cases r with
  | none => simp [pStep, pEnd]
  | some fl =>
    obtain ⟨f, l⟩ := fl
    unfold pStep
    dsimp only
    split <;> simp [pEnd]
theorem pfold_len : ∀ (L : List Nat) (st : PSt0), (pEnd (L.foldl pStep st)).length ≤ (pEnd st).length + L.length
  | [], _ => Nat.le_refl _
  | n :: L, st => by
    rw [List.foldl_cons, List.length_cons]
    have h1 := pfold_len L (pStep st n)
    have h2 := pstep_len st n
    omega
theorem runs_count (L : List Nat) : (runsN L).length ≤ L.length := by
  have := pfold_len L ([], none)
  simpa [runsN, pEnd] using this
/-- Parse of String's text. -/
theorem parse_back (w : World) {V : List Nat} (hr : Ready6 w) (hV : Wds V) : Calls Tryd.prog 17 #[.string (bs (textL (nodesW V)))] w fun e w' => ∃ v, e = .returned (.tuple #[.agg #[.pointer v], .int .i64 0]) ∧ SetAt w' v V ∧ Below w.heap.size w w' := by
  by_cases hn : nodesW V = []
  · have hz : V = zeros := words_ext hV wds_zeros (by rw [hn, nodes_zeros])
    rw [hn, textL_nil]
    refine (parse_any w (bs []) (by decide) hr).mono ?_
    rintro e w' ⟨hb, ⟨_, rfl⟩ | ⟨R, v, ⟨h1, _, h3⟩, _⟩ | ⟨h, _⟩⟩
    · exact ⟨none, rfl, by rw [hz]; exact ⟨wds_zeros, .inl ⟨rfl, rfl⟩⟩, hb⟩
    · exact absurd h3 (txt_ne h1)
    · exact absurd rfl h
  · have hl : (textL (nodesW V)).length ≤ 40960 := by
      have hre := text_reads (nodes_up V) (nodes_4 hV) hn
      have h1 := txt_len _ _ rfl hre.2.1
      have h2 : txt (runsN (nodesW V)) = textL (nodesW V) := hre.2.2
      rw [h2] at h1
      have h3 := runs_count (nodesW V)
      have := nodes_le hV
      omega
    have hre : Reads (bs (textL (nodesW V))).data.toList (runsN (nodesW V)) := by rw [bs_data]; exact text_reads (nodes_up V) (nodes_4 hV) hn
    have := parse_good (bs (textL (nodesW V))) (by rw [bs_size]; omega) hre w hr
    rw [runsW_nodes hV] at this
    exact this
theorem pop_zeros : popW zeros = 0 := by rw [← nodes_len, nodes_zeros]; rfl
/-- the text l stands for the set V. -/
def StandsFor (l : List UInt8) (V : List Nat) : Prop := (l = [] ∧ V = zeros) ∨ ∃ R, Reads l R ∧ V = runsW R
theorem stands_text {l : List UInt8} {V : List Nat} (h : StandsFor l V) : textL (nodesW V) = l := by
  rcases h with ⟨rfl, rfl⟩ | ⟨R, h, rfl⟩
  · rw [nodes_zeros]; rfl
  · exact (reads_text h).1
theorem reads_ne {l : List UInt8} {R : List (Nat × Nat)} (h : Reads l R) : l ≠ [] := fun e => txt_ne h.1 (by rw [← e]; exact h.2.2)
theorem parse_stands (s : ByteArray) (hs : s.size ≤ 1099511627) {V : List Nat} (h : StandsFor s.data.toList V) (w : World) (hr : Ready6 w) : Calls Tryd.prog 17 #[.string s] w fun e w' => ∃ v, e = .returned (.tuple #[.agg #[.pointer v], .int .i64 0]) ∧ SetAt w' v V ∧ Below w.heap.size w w' := by
  rcases h with ⟨h0, rfl⟩ | ⟨R, h, rfl⟩
  · refine (parse_any w s hs hr).mono ?_
    rintro e w' ⟨hb, ⟨_, rfl⟩ | ⟨R, v, h1, _⟩ | ⟨h, _⟩⟩
    · exact ⟨none, rfl, ⟨wds_zeros, .inl ⟨rfl, rfl⟩⟩, hb⟩
    · exact absurd h0 (reads_ne h1)
    · exact absurd h0 h
  · exact parse_good s hs h w hr
theorem refParse_stands (s : ByteArray) (hs : s.size ≤ 60) {V : List Nat} (h : StandsFor s.data.toList V) (w : World) : Calls Tryd.prog 20 #[.string s] w fun e w' => ∃ v, e = .returned (.tuple #[v, .bool true]) ∧ OwnI w' w.heap.size 3 v (nodesI V) ∧ Below w.heap.size w w' := by
  refine (refParse_any s hs w).mono ?_
  rintro e w' ⟨hb, ⟨h1, h2, _⟩ | ⟨v, L, rfl, hown, hL⟩⟩
  · rcases h with ⟨h0, _⟩ | ⟨R, h, _⟩
    · exact absurd h0 h1
    · exact absurd h (h2 R)
  · refine ⟨v, rfl, ?_, hb⟩
    have e : L = nodesI V := by
      rcases h with ⟨h0, rfl⟩ | ⟨R, h, rfl⟩
      · rcases hL with ⟨_, rfl⟩ | ⟨R, h1, _⟩
        · unfold nodesI; rw [nodes_zeros]; rfl
        · exact absurd h0 (reads_ne h1)
      · rcases hL with ⟨h0, _⟩ | ⟨R', h1, rfl⟩
        · exact absurd h0 (reads_ne h)
        · rw [reads_one h h1]
    rw [← e]
    exact hown
theorem refParse_bad (s : ByteArray) (hs : s.size ≤ 60) (h0 : s.data.toList ≠ []) (h : ∀ R, ¬ Reads s.data.toList R) (w : World) : Calls Tryd.prog 20 #[.string s] w fun e w' => ∃ v, e = .returned (.tuple #[v, .bool false]) ∧ Below w.heap.size w w' := by
  refine (refParse_any s hs w).mono ?_
  rintro e w' ⟨hb, ⟨_, _, v, rfl⟩ | ⟨v, L, _, _, hL⟩⟩
  · exact ⟨v, rfl, hb⟩
  · rcases hL with ⟨h1, _⟩ | ⟨R, h1, _⟩
    · exact absurd h1 h0
    · exact absurd h1 (h R)
end Go.Proofs.YtalfjcamjdmdjaaDoor
