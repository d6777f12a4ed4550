/-
  The clock: what the reference's Span computes, for all integers.
-/
import Derived.Test.YtcpplebgocbnhaaDoorSpan
import Derived.Test.YtcpplebgocbnhaaDoorClockD
namespace Go.Proofs.YtcpplebgocbnhaaDoor
open Go.RowKit Go.Maps

/-- a piece put behind what there is, with a blank between. -/
def glue (c : Prop) [Decidable c] (o p : List UInt8) : List UInt8 := if c then (if o = [] then p else o ++ ([32] ++ p)) else o
def out1 (x : Int) : List UInt8 := if 0 < x / 3600 then Lib.decDigits (x / 3600).toNat ++ [104] else []
def out2 (x : Int) : List UInt8 := glue (0 < x % 3600 / 60) (out1 x) (Lib.decDigits (x % 3600 / 60).toNat ++ [109])
def out3 (x : Int) : List UInt8 := glue (0 < x % 60 ∨ x = 0) (out2 x) (Lib.decDigits (x % 60).toNat ++ [115])

theorem glue_join {c : Prop} [Decidable c] {ps : List (List UInt8)} (hps : ∀ p ∈ ps, p ≠ []) (p : List UInt8) : glue c (Lib.join ps [32]) p = Lib.join (ps ++ if c then [p] else []) [32] := by
  unfold glue
  split
  · cases ps with
    | nil => simp [Lib.join_nil, Lib.join_one]
    | cons q r =>
      have hq := hps q (by simp)
      rw [Lib.join_cons, if_neg (by simp [hq])]
      show _ = Lib.join (q :: (r ++ [p])) [32]
      rw [Lib.join_cons]
      simp [Lib.joinTail]
  · rw [List.append_nil]

theorem out3_eq (x : Int) : out3 x = Lib.join (parts x) [32] := by
  unfold out3 out2 parts
  rw [show out1 x = Lib.join (if 0 < x / 3600 then [Lib.decDigits (x / 3600).toNat ++ [104]] else []) [32] by unfold out1; split; exact (Lib.join_one _ _).symm; rfl]
  rw [glue_join (by intro p hp; split at hp; (rcases List.mem_singleton.1 hp with rfl; simp); cases hp), glue_join]
  intro p hp
  rcases List.mem_append.1 hp with hp | hp
  · split at hp
    · rcases List.mem_singleton.1 hp with rfl
      simp
    · cases hp
  · split at hp
    · rcases List.mem_singleton.1 hp with rfl
      simp
    · cases hp

theorem out1_len (x : Int) (h1 : x ≤ 4611686018427387904) : (bs (out1 x)).size ≤ 30 := by
  have := dec_length (x / 3600) (by omega)
  rw [bs_size]
  unfold out1
  split <;> simp <;> omega
theorem glue_len (c : Prop) [Decidable c] (o p : List UInt8) : (bs (glue c o p)).size ≤ (bs o).size + (bs p).size + 1 := by
  rw [bs_size, bs_size, bs_size]
  unfold glue
  split
  · split
    · omega
    · simp
      omega
  · omega
theorem out2_len (x : Int) (h1 : x ≤ 4611686018427387904) : (bs (out2 x)).size ≤ 60 := by
  have a := out1_len x h1
  have b := glue_len (0 < x % 3600 / 60) (out1 x) (Lib.decDigits (x % 3600 / 60).toNat ++ [109])
  have := dec_length (x % 3600 / 60) (by omega)
  rw [bs_size (_ ++ _)] at b
  unfold out2
  simp at b
  omega
theorem str_eq {a b : ByteArray} (h : a = b) : Value.string a = Value.string b := by rw [h]

set_option maxRecDepth 100000 in
set_option maxHeartbeats 4000000 in
theorem span_any (t : Int) (w : World) : Calls Tryd.prog 23 #[.int .i64 t] w fun e w' => e = .returned (.string (bs (span (hold t)))) ∧ Below w.heap.size w w' := by
  go_enter Tryd.func23, Tryd.ntmps23
  go_wp2_with fail
  refine (hold_any _ _).mono ?_
  rintro e w' ⟨rfl, rfl⟩
  obtain ⟨w, rfl⟩ : ∃ w : World, w = w' := ⟨_, rfl⟩
  have a0 := hold_ge t
  have a1 := hold_le t
  obtain ⟨x, hx⟩ : ∃ x, x = hold t := ⟨_, rfl⟩
  rw [← hx] at a0 a1 ⊢
  have HX := Lib.hid hx
  clear hx
  go_wp2_with fail
  refine (never_any _).mono ?_
  rintro e w' ⟨rfl, rfl⟩
  obtain ⟨w, rfl⟩ : ∃ w : World, w = w' := ⟨_, rfl⟩
  by_cases hn : x = 4611686018427387904
  · subst hn
    go_wp2_with fail
    go_ret
    exact ⟨ret_str (by rw [← HX.out]; rfl), Below.refl _ _⟩
  by_cases h0x : x = 0
  · subst h0x
    go_wp2_with fail
    refine (num_any 0 (by omega) (by omega) _).mono ?_
    rintro e w1 ⟨rfl, hb⟩
    have HB1 := Lib.hid hb
    clear hb
    have l : (bs (Lib.decDigits 0)).size ≤ 20 := dec_len 0 (by omega)
    rw [Int.toNat_zero]
    go_wp2_with fail
    go_ret
    refine ⟨ret_str ?_, HB1.out⟩
    show bs [] ++ bs _ ++ bs [115] = _
    rw [bs_append, bs_append, ← HX.out, span, if_neg hn, parts]
    simp [Lib.join_one]
  · have HB := Lib.hid (Below.refl w.heap.size w)
    go_upto_if 10 with fail
    go_cut [3] (fun v wx => v = .string (bs (out1 x)) ∧ Below w.heap.size w wx)
    case first =>
      by_cases hc : 0 < x / 3600
      · go_wp2_with fail
        refine (num_any (x / 3600) (by omega) (by omega) _).mono ?_
        rintro e w1 ⟨rfl, hb⟩
        have HB1 := Lib.hid (below_then HB.out hb)
        clear hb
        have l := dec_len (x / 3600) (by omega)
        go_wp2_with fail
        go_meet
        case rel =>
          refine ⟨str_eq ?_, HB1.out⟩
          show bs _ ++ bs [104] = _
          rw [bs_append, out1, if_pos hc]
      · go_wp2_with fail
        go_meet
        case rel =>
          refine ⟨str_eq ?_, HB.out⟩
          rw [out1, if_neg (by omega)]
          rfl
    case rest =>
    clear HB
    obtain ⟨rfl, hb⟩ := hcut
    have HB := Lib.hid hb
    clear hb
    have hl := out1_len x a1
    obtain ⟨o, hod⟩ : ∃ o, o = out1 x := ⟨_, rfl⟩
    rw [← hod] at hl ⊢
    have HO := Lib.hid hod
    clear hod
    go_upto_if 18 with fail
    go_cut [3] (fun v wx => v = .string (bs (glue (0 < x % 3600 / 60) o (Lib.decDigits (x % 3600 / 60).toNat ++ [109]))) ∧ Below w.heap.size w wx)
    case first =>
      by_cases hc : 0 < x % 3600 / 60
      ·
        by_cases ho : o = []
        · have e1 : ((bs o).toList == []) = true := by rw [toL_bs, ho]; rfl
          have e2 : ((bs o).toList != []) = false := by rw [bne, e1]; rfl
          have HOO := Lib.hid ho
          clear ho
          go_wp2_with fail
          refine (num_any (x % 3600 / 60) (by omega) (by omega) _).mono ?_
          rintro e w1 ⟨rfl, hb⟩
          have HB1 := Lib.hid (below_then HB.out hb)
          clear hb
          have l := dec_len (x % 3600 / 60) (by omega)
          go_wp2_with fail
          go_meet
          case rel =>
            refine ⟨str_eq ?_, HB1.out⟩
            show bs o ++ bs _ ++ bs [109] = _
            rw [bs_append, bs_append, glue, if_pos hc, if_pos HOO.out, HOO.out]
            rfl
        · have e1 : ((bs o).toList == []) = false := by rw [toL_bs, beq_eq_false_iff_ne]; exact ho
          have e2 : ((bs o).toList != []) = true := by rw [bne, e1]; rfl
          go_wp2_with fail
          refine (num_any (x % 3600 / 60) (by omega) (by omega) _).mono ?_
          rintro e w1 ⟨rfl, hb⟩
          have HB1 := Lib.hid (below_then HB.out hb)
          clear hb
          have l := dec_len (x % 3600 / 60) (by omega)
          go_wp2_with fail
          go_meet
          case rel =>
            refine ⟨str_eq ?_, HB1.out⟩
            show bs o ++ bs [32] ++ bs _ ++ bs [109] = _
            rw [bs_append, bs_append, bs_append, glue, if_pos hc, if_neg ho]
            simp only [List.append_assoc]
      · go_wp2_with fail
        go_meet
        case rel =>
          refine ⟨str_eq ?_, HB.out⟩
          rw [glue, if_neg (by omega)]
    case rest =>
    clear HB
    obtain ⟨rfl, hb⟩ := hcut
    have HB := Lib.hid hb
    clear hb hl
    have hl := out2_len x a1
    rw [HO.out]
    obtain ⟨o, hod⟩ : ∃ o, o = out2 x := ⟨_, rfl⟩
    have hod2 : glue (0 < x % 3600 / 60) (out1 x) (Lib.decDigits (x % 3600 / 60).toNat ++ [109]) = o := hod.symm
    rw [← hod] at hl
    rw [hod2]
    have HO2 := Lib.hid hod
    clear hod hod2
    by_cases ho : o = []
    · by_cases hs : 0 < x % 60
      · have e1 : ((bs o).toList == []) = true := by rw [toL_bs, ho]; rfl
        have e2 : ((bs o).toList != []) = false := by rw [bne, e1]; rfl
        have HOO := Lib.hid ho
        clear ho
        go_wp2_with fail
        refine (num_any (x % 60) (by omega) (by omega) _).mono ?_
        rintro e w1 ⟨rfl, hb⟩
        have HB1 := Lib.hid (below_then HB.out hb)
        clear hb
        have l := dec_len (x % 60) (by omega)
        go_wp2_with fail
        go_ret
        refine ⟨ret_str ?_, HB1.out⟩
        show bs o ++ bs _ ++ bs [115] = _
        rw [bs_append, bs_append, show o = [] from HOO.out]
        rw [← HX.out]
        rw [show span x = Lib.decDigits (x % 60).toNat ++ [115] by rw [span, if_neg hn, ← out3_eq, out3, glue, if_pos (Or.inl hs), if_pos (HO2.out.symm.trans HOO.out)]]
        rfl
      · have HOO := Lib.hid ho
        clear ho
        go_wp2_with fail
        go_ret
        refine ⟨ret_str ?_, HB.out⟩
        rw [← HX.out, show span x = o by rw [span, if_neg hn, ← out3_eq, out3, glue, if_neg (by omega), HO2.out]]
    · by_cases hs : 0 < x % 60
      · have e1 : ((bs o).toList == []) = false := by rw [toL_bs, beq_eq_false_iff_ne]; exact ho
        have e2 : ((bs o).toList != []) = true := by rw [bne, e1]; rfl
        have HOO := Lib.hid ho
        clear ho
        go_wp2_with fail
        refine (num_any (x % 60) (by omega) (by omega) _).mono ?_
        rintro e w1 ⟨rfl, hb⟩
        have HB1 := Lib.hid (below_then HB.out hb)
        clear hb
        have l := dec_len (x % 60) (by omega)
        go_wp2_with fail
        go_ret
        refine ⟨ret_str ?_, HB1.out⟩
        show bs o ++ bs [32] ++ bs _ ++ bs [115] = _
        rw [bs_append, bs_append, bs_append]
        rw [← HX.out]
        rw [show span x = o ++ ([32] ++ (Lib.decDigits (x % 60).toNat ++ [115])) by rw [span, if_neg hn, ← out3_eq, out3, glue, if_pos (Or.inl hs), if_neg (fun q => HOO.out (HO2.out.trans q)), HO2.out]]
        simp only [List.append_assoc]
      · go_wp2_with fail
        go_ret
        refine ⟨ret_str ?_, HB.out⟩
        rw [← HX.out, show span x = o by rw [span, if_neg hn, ← out3_eq, out3, glue, if_neg (by omega), HO2.out]]

end Go.Proofs.YtcpplebgocbnhaaDoor
