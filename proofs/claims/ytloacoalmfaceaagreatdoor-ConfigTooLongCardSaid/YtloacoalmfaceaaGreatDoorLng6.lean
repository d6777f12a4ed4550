/-
  config.parseLine and config.Parse at a text without a line's end that begins with node and at least two words more (printed by genlng6.py).
-/
import Derived.Test.YtloacoalmfaceaaGreatDoorAwk6
namespace Go.Proofs.YtloacoalmfaceaaGreatDoor
open Go.RowKit Go.Maps Go.Shelf

theorem words_ex : ∀ t : List UInt8, ∃ ws : List (List UInt8), ws ≠ [] ∧ (∀ p ∈ ws, (32 : UInt8) ∉ p) ∧ Lib.join ws [32] = t
  | [] => ⟨[[]], by simp, by simp, rfl⟩
  | c :: t => by
    obtain ⟨ws, h0, h1, h2⟩ := words_ex t
    obtain ⟨p, r, rfl⟩ := List.exists_cons_of_ne_nil h0
    by_cases hc : c = 32
    · subst hc
      refine ⟨[] :: p :: r, by simp, ?_, ?_⟩
      · intro q hq
        rcases List.mem_cons.1 hq with rfl | hq
        · simp
        · exact h1 q hq
      · rw [join_two, h2]
        rfl
    · refine ⟨(c :: p) :: r, by simp, ?_, ?_⟩
      · intro q hq
        rcases List.mem_cons.1 hq with rfl | hq
        · intro hm
          rcases List.mem_cons.1 hm with e | hm
          · exact hc e.symm
          · exact h1 p (by simp) hm
        · exact h1 q (by simp [hq])
      · rw [← h2, Lib.join_cons, Lib.join_cons]
        rfl
theorem cut_none {l : List UInt8} (h : (10 : UInt8) ∉ l) : Lib.cut l [10] = (l, [], false) := by
  unfold Lib.cut
  rw [index_miss h]
  rfl
set_option maxRecDepth 100000 in
set_option maxHeartbeats 4000000 in
theorem line_bad (cb : Nat) (rest : List (List UInt8)) (m : Nat) (hm : rest.length = m) (hm2 : 2 ≤ m) (hb : ∀ p ∈ rest, (32 : UInt8) ∉ p) (hl : (Lib.join (wNode :: rest) [32]).length < 4294967281) (W : World) (hr : Rdy W) :
    Calls Tryz.prog 38 #[.pointer (some ⟨cb, 0, none⟩), .string (bs (Lib.join (wNode :: rest) [32]))] W fun e w' => e = .returned (.int .i64 0) ∧ Below W.heap.size W w' := by
  have HS := Lib.hid (split_any (wNode :: rest) (by simp) (by intro p hp; rcases List.mem_cons.1 hp with rfl | hp; decide; exact hb p hp) hl W hr)
  have hbA : Below W.heap.size W (W.alloc (.cells ((wNode :: rest).map strV).toArray 9)) := (Below.refl _ _).alloc (Nat.le_refl _) _
  have k0 : (W.alloc (.cells ((wNode :: rest).map strV).toArray 9)).cell? ⟨W.heap.size, 0, none⟩ = some (.string (bs wNode)) := by rw [World.cell?_alloc_at (hn := rfl)]; rfl
  obtain ⟨W1, hW1⟩ : ∃ Y, Y = W.alloc (.cells ((wNode :: rest).map strV).toArray 9) := ⟨_, rfl⟩
  have HB := Lib.hid hbA
  rw [← hW1] at k0 HB HS
  rw [List.length_cons, hm] at HS
  have hm5 : m ≤ 4294967281 := by
    have h1 : ∀ ps : List (List UInt8), ps.length ≤ (Lib.join ps [32]).length + 1 := fun ps => by
      induction ps with
      | nil => simp
      | cons p r ih =>
        cases r with
        | nil => simp
        | cons q r =>
          rw [join_two]
          simp only [List.length_cons, List.length_append] at ih ⊢
          simp only [List.length_nil]
          omega
    have := h1 (wNode :: rest)
    simp only [List.length_cons] at this
    omega
  have e1 : ((bs wNode).toList == [101, 100, 103, 101]) = false := eq_toL.trans (decide_eq_false (by rw [bs_data]; decide))
  have e2 : ((bs wNode).toList == [117, 110, 105, 116]) = false := eq_toL.trans (decide_eq_false (by rw [bs_data]; decide))
  have e3 : ((bs wNode).toList == [112, 108, 97, 110]) = false := eq_toL.trans (decide_eq_false (by rw [bs_data]; decide))
  obtain ⟨T, hT⟩ : ∃ T, T = bs (Lib.join (wNode :: rest) [32]) := ⟨_, rfl⟩
  obtain ⟨N, hN⟩ : ∃ N, N = bs wNode := ⟨_, rfl⟩
  rw [← hT] at HS ⊢
  rw [← hN] at k0 e1 e2 e3
  have hm0 : ¬ m = 0 := by omega
  have hm1 : (1 : Int) ≤ (m : Int) + 1 := by omega
  clear hbA hr hb hl hW1 hT hm hN
  go_enter Tryz.func38, Tryz.ntmps38
  go_wp2_with fail
  refine HS.out.mono ?_
  rintro e w' ⟨rfl, hw⟩
  rw [hw]
  clear hw w' HS
  go_wp2_with fail
  go_quiet (fail)
  go_wp2_with fail
  refine (value_not _ N _ m m _ (by omega)).mono ?_
  rintro e w' ⟨rfl, hb'⟩
  have HE := Lib.hid (HB.out.trans ((below_dr (Below.refl _ _) nq).trans hb' |>.mono HB.out.size))
  clear hb'
  go_wp2_with fail
  go_ret
  exact ⟨rfl, HE.out⟩
set_option maxRecDepth 100000 in
set_option maxHeartbeats 4000000 in
theorem parse_none (w : World) (hr : Rdy w) (rest : List (List UInt8)) (hm2 : 2 ≤ rest.length) (hb : ∀ p ∈ rest, (32 : UInt8) ∉ p) (hnl : (10 : UInt8) ∉ Lib.join (wNode :: rest) [32]) (hlen : (Lib.join (wNode :: rest) [32]).length ≤ 65536) (S : ByteArray) (hS : S = bs (Lib.join (wNode :: rest) [32])) :
    Calls Tryz.prog 13 #[.string S] w fun e w' => e = .returned (.tuple #[.agg #[.int .i64 0, .slice none 0 0, .slice none 0 0, .slice none 0 0, .slice none 0 0, .int .i64 0, .int .i64 0, .int .i64 0, .int .i64 0, .int .i64 0, .int .i64 0, .int .i64 0, .int .i64 0, .int .i64 0, .int .i64 0], .int .i64 1, .int .i64 2]) ∧ Below w.heap.size w w' := by
  have hbA : Below w.heap.size w (w.alloc (.cells #[.int .i64 0, .slice none 0 0, .slice none 0 0, .slice none 0 0, .slice none 0 0, .int .i64 0, .int .i64 0, .int .i64 0, .int .i64 0, .int .i64 0, .int .i64 0, .int .i64 0, .int .i64 0, .int .i64 0, .int .i64 0] 27)) := (Below.refl _ _).alloc (Nat.le_refl _) _
  have hrowA := new_obj w (.cells #[.int .i64 0, .slice none 0 0, .slice none 0 0, .slice none 0 0, .slice none 0 0, .int .i64 0, .int .i64 0, .int .i64 0, .int .i64 0, .int .i64 0, .int .i64 0, .int .i64 0, .int .i64 0, .int .i64 0, .int .i64 0] 27)
  have hzA : w.heap.size < (w.alloc (.cells #[.int .i64 0, .slice none 0 0, .slice none 0 0, .slice none 0 0, .slice none 0 0, .int .i64 0, .int .i64 0, .int .i64 0, .int .i64 0, .int .i64 0, .int .i64 0, .int .i64 0, .int .i64 0, .int .i64 0, .int .i64 0] 27)).heap.size := by simp
  obtain ⟨WA, hWA⟩ : ∃ Y, Y = w.alloc (.cells #[.int .i64 0, .slice none 0 0, .slice none 0 0, .slice none 0 0, .slice none 0 0, .int .i64 0, .int .i64 0, .int .i64 0, .int .i64 0, .int .i64 0, .int .i64 0, .int .i64 0, .int .i64 0, .int .i64 0, .int .i64 0] 27) := ⟨_, rfl⟩
  have hdc : defCfg.cells.toArray = #[.int .i64 0, .slice none 0 0, .slice none 0 0, .slice none 0 0, .slice none 0 0, .int .i64 2, .int .i64 10, .int .i64 12, .int .i64 20, .int .i64 30, .int .i64 4, .int .i64 10, .int .i64 50, .int .i64 1, .int .i64 8] := rfl
  have HD := Lib.hid (default_any WA)
  rw [hdc] at HD
  rw [← hWA] at hbA hrowA hzA
  have HA := Lib.hid (And.intro hbA (And.intro hrowA hzA))
  have HR := Lib.hid hr
  have hne : Lib.join (wNode :: rest) [32] ≠ [] := by rw [Lib.join_cons]; simp [wNode]
  have d0 : decide ((65536 : Int) < (S.size : Int)) = false := decide_eq_false (by rw [hS, bs_size]; omega)
  have e0 : (S.toList == []) = false := by rw [ByteArray.toList_eq, hS, bs_data, beq_eq_false_iff_ne]; exact hne
  have e0' : (S.toList != []) = true := by rw [bne, e0]; rfl
  have HC := Lib.hid (fun W (h : Rdy W) => cut_any S ⟨#[10]⟩ (Lib.join (wNode :: rest) [32]) [] false (by rw [hS, bs_data]; exact cut_none hnl) (by rw [hS, bs_size]; omega) W h)
  have HL := Lib.hid (fun cb W (h : Rdy W) => line_bad cb rest rest.length rfl hm2 hb (by omega) W h)
  rw [← hS] at HC HL
  clear hbA hrowA hzA hr hdc hne hnl hlen hb hm2 hS
  go_enter Tryz.func13, Tryz.ntmps13
  go_wp2_with fail
  rw [← hWA]
  clear hWA
  refine HD.out.mono ?_
  rintro e W1 ⟨rfl, hb1⟩
  have hbW : Below W1.heap.size W1 (W1.alloc (.cells #[.int .i64 0, .slice none 0 0, .slice none 0 0, .slice none 0 0, .slice none 0 0, .int .i64 2, .int .i64 10, .int .i64 12, .int .i64 20, .int .i64 30, .int .i64 4, .int .i64 10, .int .i64 50, .int .i64 1, .int .i64 8] 27)) := (Below.refl _ _).alloc (Nat.le_refl _) _
  have HB1 := Lib.hid (And.intro (HA.out.1.trans (hb1.mono HA.out.1.size)) (And.intro ((hb1.block w.heap.size HA.out.2.2).trans HA.out.2.1) (Nat.lt_of_lt_of_le HA.out.2.2 hb1.size)))
  obtain ⟨W2, hW2⟩ : ∃ Y, Y = W1.alloc (.cells #[.int .i64 0, .slice none 0 0, .slice none 0 0, .slice none 0 0, .slice none 0 0, .int .i64 2, .int .i64 10, .int .i64 12, .int .i64 20, .int .i64 30, .int .i64 4, .int .i64 10, .int .i64 50, .int .i64 1, .int .i64 8] 27) := ⟨_, rfl⟩
  rw [← hW2] at hbW
  have HB2 := Lib.hid hbW
  clear hbW hb1 HD HA
  go_wp2_with fail
  rw [← hW2]
  clear hW2 d0
  go_loopw [6, 7, 8] (fun cnt prv rst Y => cnt = .int .i64 0 ∧ prv = .int .i64 0 ∧ rst = .string S ∧ Y = W2) (fun _ _ _ _ => 0)
  case atStart => exact ⟨rfl, rfl, rfl, rfl⟩
  case round =>
    obtain ⟨rfl, rfl, rfl, rfl⟩ := hrel
    have RD : Hid (∀ Y, Below W1.heap.size W1 Y → Rdy Y) := Lib.hid (fun Y hY => HR.out.below (HB1.out.1.trans (hY.mono HB1.out.1.size)))
    go_wp2_with fail
    refine (HC.out _ (RD.out _ HB2.out)).mono ?_
    rintro e w3 ⟨rfl, hb3⟩
    have H3 := Lib.hid (HB2.out.trans (hb3.mono HB2.out.size))
    clear hb3 HC e0 e0'
    go_wp2_with fail
    refine (HL.out W1.heap.size w3 (RD.out _ H3.out)).mono ?_
    rintro e w4 ⟨rfl, hb4⟩
    have H4 := Lib.hid (H3.out.trans (hb4.mono H3.out.size))
    have rA := (H4.out.block w.heap.size HB1.out.2.2).trans HB1.out.2.1
    have HRA := Lib.hid rA
    have HF := Lib.hid (below_row (HB1.out.1.trans (H4.out.mono HB1.out.1.size)) #[.int .i64 0, .slice none 0 0, .slice none 0 0, .slice none 0 0, .slice none 0 0, .int .i64 0, .int .i64 0, .int .i64 0, .int .i64 0, .int .i64 0, .int .i64 0, .int .i64 0, .int .i64 0, .int .i64 0, .int .i64 0])
    clear hb4 HL
    go_wp2_with (refine wpList_store_row rfl 27 (.tmp 2) (.tmp 41) rfl w.heap.size #[.int .i64 0, .slice none 0 0, .slice none 0 0, .slice none 0 0, .slice none 0 0, .int .i64 0, .int .i64 0, .int .i64 0, .int .i64 0, .int .i64 0, .int .i64 0, .int .i64 0, .int .i64 0, .int .i64 0, .int .i64 0] rfl rfl 27 _ rA (by kernel_rfl) rfl (cells_one zeroCfg) ?_)
    exact bodyPost_ret (results_cell_tmp2 Tryz.results13 _ _ w.heap.size 27 #[.int .i64 0, .slice none 0 0, .slice none 0 0, .slice none 0 0, .slice none 0 0, .int .i64 0, .int .i64 0, .int .i64 0, .int .i64 0, .int .i64 0, .int .i64 0, .int .i64 0, .int .i64 0, .int .i64 0, .int .i64 0] (0, 0) _ (by rfl) (setRow_heap _ _ _ _ _ _ HRA.out) Tryz.underlying27 rfl (by kernel_rfl)) rfl ⟨rfl, HF.out⟩
def sent : List UInt8 := [110, 111, 100, 101, 32, 48, 44, 32, 97, 110, 100, 32, 115, 111, 32, 111, 110, 44, 32, 111, 118, 101, 114, 32, 97, 110, 100, 32, 111, 118, 101, 114, 58, 32, 116, 104, 105, 115, 32, 105, 115, 32, 110, 111, 32, 99, 111, 117, 110, 116, 114, 121, 39, 115, 32, 116, 101, 120, 116, 46, 32]
def rep : Nat → List UInt8
  | 0 => []
  | k + 1 => rep k ++ sent
theorem rep_len : ∀ k, (rep k).length = 61 * k
  | 0 => rfl
  | k + 1 => by
    have : sent.length = 61 := by decide
    rw [rep, List.length_append, rep_len k, this]
    omega
theorem rep_mem : ∀ k, ∀ x ∈ rep k, x ∈ sent
  | 0, x, h => by cases h
  | k + 1, x, h => by
    rcases List.mem_append.1 h with h | h
    · exact rep_mem k x h
    · exact h
theorem rep_head : ∀ k, ∃ r, rep (k + 1) = sent ++ r
  | 0 => ⟨[], by simp [rep]⟩
  | k + 1 => by
    obtain ⟨r, hr⟩ := rep_head k
    exact ⟨r ++ sent, by rw [rep, hr, List.append_assoc]⟩
theorem long_words : ∃ rest : List (List UInt8), 2 ≤ rest.length ∧ (∀ p ∈ rest, (32 : UInt8) ∉ p) ∧ (10 : UInt8) ∉ Lib.join (wNode :: rest) [32] ∧ Lib.join (wNode :: rest) [32] = (rep 1075).take 65536 := by
  obtain ⟨r, hr⟩ := rep_head 1074
  have hs : sent = wNode ++ ([32] ++ ([48, 44] ++ ([32] ++ sent.drop 8))) := by decide
  obtain ⟨ws, h0, h1, h2⟩ := words_ex (sent.drop 8 ++ r.take 65475)
  obtain ⟨p, q, rfl⟩ := List.exists_cons_of_ne_nil h0
  have e : Lib.join (wNode :: [48, 44] :: p :: q) [32] = (rep 1075).take 65536 := by
    rw [join_two, join_two, h2, hr, List.take_append]
    have hl : sent.length = 61 := by decide
    rw [hl, List.take_of_length_le (l := sent) (by rw [hl]; omega)]
    show _ = sent ++ r.take 65475
    conv => rhs; rw [hs]
    simp only [List.append_assoc]
  refine ⟨[48, 44] :: p :: q, by simp, fun x hx => ?_, ?_, e⟩
  · rcases List.mem_cons.1 hx with rfl | hx
    · decide
    · exact h1 x hx
  · rw [e]
    intro hm
    have := rep_mem _ _ (List.mem_of_mem_take hm)
    exact absurd this (by decide)
end Go.Proofs.YtloacoalmfaceaaGreatDoor
