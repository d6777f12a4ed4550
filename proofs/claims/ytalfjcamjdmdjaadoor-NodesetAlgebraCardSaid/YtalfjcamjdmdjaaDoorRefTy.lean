/-
  samaritanref02.Text at an ascending list of nodes.
-/
import Derived.Test.YtalfjcamjdmdjaaDoorRefTx
namespace Go.Proofs.YtalfjcamjdmdjaaDoor
open Go.RowKit

theorem txt_cons_snoc {R : List (Nat × Nat)} (h : R ≠ []) (a b : Nat) : bs (txt (R ++ [(a, b)])) = bs (txt R) ++ ⟨#[44]⟩ ++ bs (runT a b) := by
  rw [txt_snoc _ _ h, show (⟨#[44]⟩ : ByteArray) = bs [44] from rfl, bs_append, bs_append]
section
variable {R : List (Nat × Nat)} {f x : Nat}
theorem text_two (h : R ≠ []) (hfx : f ≠ x) : bs (txt R) ++ ⟨#[44]⟩ ++ bs (Lib.decDigits f) ++ (⟨#[45]⟩ ++ bs (Lib.decDigits x)) = bs (txt (R ++ [(f, x)])) := by
  rw [txt_cons_snoc h, runT_two hfx, show (⟨#[44]⟩ : ByteArray) = bs [44] from rfl, show (⟨#[45]⟩ : ByteArray) = bs [45] from rfl]
  simp only [bs_append, List.append_assoc, List.cons_append, List.nil_append]
theorem text_one (h : R ≠ []) (hfx : x = f) : bs (txt R) ++ ⟨#[44]⟩ ++ bs (Lib.decDigits f) = bs (txt (R ++ [(f, x)])) := by
  rw [txt_cons_snoc h, hfx, runT_one]
theorem text_two0 (h : R = []) (hfx : f ≠ x) : bs (txt R) ++ bs (Lib.decDigits f) ++ (⟨#[45]⟩ ++ bs (Lib.decDigits x)) = bs (txt (R ++ [(f, x)])) := by
  rw [h, List.nil_append, txt_one, runT_two hfx, show (⟨#[45]⟩ : ByteArray) = bs [45] from rfl, show txt [] = [] from rfl]
  simp only [bs_append, List.cons_append, List.nil_append]
theorem text_one0 (h : R = []) (hfx : x = f) : bs (txt R) ++ bs (Lib.decDigits f) = bs (txt (R ++ [(f, x)])) := by
  rw [h, List.nil_append, txt_one, hfx, runT_one, show txt [] = [] from rfl, bs_append]
  rfl
end
theorem txt_empty {R : List (Nat × Nat)} (h : R = []) : (bs (txt R)).toList.isEmpty = true := by
  rw [h, ByteArray.toList_eq]; rfl
theorem txt_full {R : List (Nat × Nat)} (h : R ≠ []) : (bs (txt R)).toList.isEmpty = false := by
  rw [ByteArray.toList_eq, bs_data]
  have := txt_ne h
  cases hq : txt R with
  | nil => exact absurd hq this
  | cons a l => rfl
theorem at_int {L : List Nat} {j x : Nat} (h : L[j]? = some x) : (L.map Int.ofNat)[j]? = some (x : Int) := by
  rw [List.getElem?_map, h]; rfl
set_option maxRecDepth 100000 in
set_option maxHeartbeats 8000000 in
theorem refText_any (A : Option Addr) (c : Nat) (L : List Nat) (hu : Up L) (h4 : ∀ n ∈ L, n < 4096) (hl : L.length ≤ 4096) (w : World) (h : Sl w w.heap.size A ((L.map Int.ofNat).map (Value.int .i64))) :
    Calls Tryd.prog 18 #[.slice A (L.length : Nat) c] w fun e w' => e = .returned (.string (bs (textL L))) ∧ Below w.heap.size w w' := by
  have HH := Lib.hid (And.intro h (And.intro hu h4))
  obtain ⟨n, hn⟩ : ∃ n, n = L.length := ⟨_, rfl⟩
  have HN := Lib.hid hn
  rw [← hn] at hl ⊢
  clear h hu h4 hn
  go_enter Tryd.func18, Tryd.ntmps18
  go_wp2_with fail
  go_loopw [3, 4] (fun sv iv wr => ∃ (i : Nat) (R : List (Nat × Nat)), i ≤ n ∧ iv = .int .i64 i ∧ sv = .string (bs (txt R)) ∧ TxS L R i ∧ Below w.heap.size w wr) (fun _ i _ => n - (intOf i).toNat)
  case atStart => exact ⟨0, [], Nat.zero_le _, rfl, rfl, TxS.start L, Below.refl _ _⟩
  case round =>
    obtain ⟨i, R, hi, rfl, rfl, hs, hb⟩ := hrel
    have HS := Lib.hid (And.intro hs hb)
    by_cases hlt : i < n
    · obtain ⟨f, hf⟩ : ∃ f, L[i]? = some f := ⟨L[i]'(by have := HN.out; omega), by simp⟩
      have hf4 : f < 4096 := HH.out.2.2 f (List.mem_of_getElem? hf)
      obtain ⟨b, o, rfl, hbw, q⟩ := (HH.out.1.below hb).int (at_int hf)
      have hlt' : (i : Int) < (n : Int) := by omega
      have HF := Lib.hid hf
      clear hs hb hf
      go_wp2_with fail
      go_loopw [5] (fun kv X => ∃ k : Nat, kv = .int .i64 k ∧ i ≤ k ∧ k < n ∧ (∀ j, i ≤ j → j ≤ k → L[j]? = some (f + (j - i))) ∧ Below w.heap.size w X) (fun k _ => n - (intOf k).toNat)
      case atStart =>
        refine ⟨i, rfl, Nat.le_refl _, hlt, fun j h1 h2 => ?_, HS.out.2⟩
        obtain rfl : j = i := by omega
        rw [Nat.sub_self, Nat.add_zero]
        exact HF.out
      case round =>
        obtain ⟨k, rfl, hik, hkn, hrun, hbk⟩ := hrel
        obtain ⟨x, hx⟩ : ∃ x, x = f + (k - i) := ⟨_, rfl⟩
        have hkx : L[k]? = some x := by rw [hx]; exact hrun k hik (Nat.le_refl _)
        have hx4 : x < 4096 := HH.out.2.2 x (List.mem_of_getElem? hkx)
        obtain ⟨_, _, e, _, qk⟩ := (HH.out.1.below hbk).int (at_int hkx)
        injection e with e
        injection e with e1 e2
        subst e1 e2
        obtain ⟨_, _, e, _, qi⟩ := (HH.out.1.below hbk).int (at_int HF.out)
        injection e with e
        injection e with e1 e2
        subst e1 e2
        have HK := Lib.hid (And.intro (And.intro hrun hbk) (And.intro hx hkx))
        clear hrun hbk hx hkx q
        by_cases hk1 : k + 1 < n
        · obtain ⟨y, hy⟩ : ∃ y, L[k + 1]? = some y := ⟨L[k + 1]'(by have := HN.out; omega), by simp⟩
          have hy4 : y < 4096 := HH.out.2.2 y (List.mem_of_getElem? hy)
          obtain ⟨_, _, e, _, qy⟩ := (HH.out.1.below HK.out.1.2).int (at_int hy)
          injection e with e
          injection e with e1 e2
          subst e1 e2
          have hk1' : (k : Int) + 1 < (n : Int) := by omega
          have HY := Lib.hid hy
          clear hy
          by_cases hyx : y = x + 1
          · have hyx' : ((y : Int) == (x : Int) + 1) = true := beq_iff_eq.2 (by omega)
            go_wp2_with fail
            go_quiet (fail)
            go_wp2_with fail
            go_roundw
            case rel =>
              refine ⟨k + 1, by go_num, by omega, by omega, fun j h1 h2 => ?_, below_drewN HK.out.1.2 _⟩
              by_cases hj : j ≤ k
              · exact HK.out.1.1 j h1 hj
              · obtain rfl : j = k + 1 := by omega
                rw [HY.out, hyx, HK.out.2.1]
                congr 1
                omega
            case measure => simp [intOf]; omega
          · have hyx' : ((y : Int) == (x : Int) + 1) = false := beq_eq_false_iff_ne.2 (by omega)
            have hsz : (bs (txt R)).size ≤ 40960 := by rw [bs_size]; have := txt_len _ R rfl HS.out.1.good; have := HS.out.1.num; omega
            have hsf : (bs (Lib.decDigits f)).size ≤ 4 := by rw [bs_size]; exact dec_len4 hf4
            have hsx : (bs (Lib.decDigits x)).size ≤ 4 := by rw [bs_size]; exact dec_len4 hx4
            by_cases hR : R = []
            · have hE := txt_empty hR
              have HRR := Lib.hid hR
              clear hR
              by_cases hki : i < k
              · have hfx : f ≠ x := by have := HK.out.2.1; omega
                have hki' : (i : Int) < (k : Int) := by omega
                go_wp2_with fail
                go_quiet (fail)
                go_wp2_with fail
                refine (digits_any f hf4 _).mono ?_
                rintro e w2 ⟨rfl, hb2⟩
                have HB2 := Lib.hid ((below_drewN HK.out.1.2 _).trans (hb2.mono HK.out.1.2.size))
                have qk2 := (hb2.cell (p := ⟨b, o + k, none⟩) (Nat.lt_of_lt_of_le hbw HK.out.1.2.size)).trans qk
                clear hb2 qk qi
                go_wp2_with fail
                refine (digits_any x hx4 _).mono ?_
                rintro e w3 ⟨rfl, hb3⟩
                have HB3 := Lib.hid (HB2.out.trans (hb3.mono HB2.out.size))
                clear hb3
                go_wp2_with fail
                go_roundw
                case rel =>
                  refine ⟨k + 1, R ++ [(f, x)], by omega, by go_num, ?_, ?_, HB3.out⟩
                  · exact congrArg Value.string (text_two0 HRR.out hfx)
                  · have := HS.out.1.step HH.out.2.1 HH.out.2.2 hik HK.out.1.1 (fun z hz => by have e := HY.out.symm.trans hz; injection e with e; have := HK.out.2.1; omega)
                    rwa [← HK.out.2.1] at this
                case measure => simp [intOf]; omega
              · obtain rfl : i = k := by omega
                have hfx : x = f := by have := HK.out.2.1; omega
                have hki' : ¬ (i : Int) < (i : Int) := by omega
                go_wp2_with fail
                go_quiet (fail)
                go_wp2_with fail
                refine (digits_any f hf4 _).mono ?_
                rintro e w2 ⟨rfl, hb2⟩
                have HB2 := Lib.hid ((below_drewN HK.out.1.2 _).trans (hb2.mono HK.out.1.2.size))
                clear hb2 qk qi
                go_wp2_with fail
                go_roundw
                case rel =>
                  refine ⟨i + 1, R ++ [(f, x)], by omega, by go_num, ?_, ?_, HB2.out⟩
                  · exact congrArg Value.string (text_one0 HRR.out hfx)
                  · have := HS.out.1.step HH.out.2.1 HH.out.2.2 hik HK.out.1.1 (fun z hz => by have e := HY.out.symm.trans hz; injection e with e; have := HK.out.2.1; omega)
                    rwa [← HK.out.2.1] at this
                case measure => simp [intOf]; omega
            · have hE := txt_full hR
              have HRR := Lib.hid hR
              clear hR
              by_cases hki : i < k
              · have hfx : f ≠ x := by have := HK.out.2.1; omega
                have hki' : (i : Int) < (k : Int) := by omega
                go_wp2_with fail
                go_quiet (fail)
                go_wp2_with fail
                refine (digits_any f hf4 _).mono ?_
                rintro e w2 ⟨rfl, hb2⟩
                have HB2 := Lib.hid ((below_drewN HK.out.1.2 _).trans (hb2.mono HK.out.1.2.size))
                have qk2 := (hb2.cell (p := ⟨b, o + k, none⟩) (Nat.lt_of_lt_of_le hbw HK.out.1.2.size)).trans qk
                clear hb2 qk qi
                go_wp2_with fail
                refine (digits_any x hx4 _).mono ?_
                rintro e w3 ⟨rfl, hb3⟩
                have HB3 := Lib.hid (HB2.out.trans (hb3.mono HB2.out.size))
                clear hb3
                go_wp2_with fail
                go_roundw
                case rel =>
                  refine ⟨k + 1, R ++ [(f, x)], by omega, by go_num, ?_, ?_, HB3.out⟩
                  · exact congrArg Value.string (text_two HRR.out hfx)
                  · have := HS.out.1.step HH.out.2.1 HH.out.2.2 hik HK.out.1.1 (fun z hz => by have e := HY.out.symm.trans hz; injection e with e; have := HK.out.2.1; omega)
                    rwa [← HK.out.2.1] at this
                case measure => simp [intOf]; omega
              · obtain rfl : i = k := by omega
                have hfx : x = f := by have := HK.out.2.1; omega
                have hki' : ¬ (i : Int) < (i : Int) := by omega
                go_wp2_with fail
                go_quiet (fail)
                go_wp2_with fail
                refine (digits_any f hf4 _).mono ?_
                rintro e w2 ⟨rfl, hb2⟩
                have HB2 := Lib.hid ((below_drewN HK.out.1.2 _).trans (hb2.mono HK.out.1.2.size))
                clear hb2 qk qi
                go_wp2_with fail
                go_roundw
                case rel =>
                  refine ⟨i + 1, R ++ [(f, x)], by omega, by go_num, ?_, ?_, HB2.out⟩
                  · exact congrArg Value.string (text_one HRR.out hfx)
                  · have := HS.out.1.step HH.out.2.1 HH.out.2.2 hik HK.out.1.1 (fun z hz => by have e := HY.out.symm.trans hz; injection e with e; have := HK.out.2.1; omega)
                    rwa [← HK.out.2.1] at this
                case measure => simp [intOf]; omega
        · have hk1d : decide ((k : Int) + 1 < (n : Int)) = false := decide_eq_false (by omega)
          have hsz : (bs (txt R)).size ≤ 40960 := by rw [bs_size]; have := txt_len _ R rfl HS.out.1.good; have := HS.out.1.num; omega
          have hsf : (bs (Lib.decDigits f)).size ≤ 4 := by rw [bs_size]; exact dec_len4 hf4
          have hsx : (bs (Lib.decDigits x)).size ≤ 4 := by rw [bs_size]; exact dec_len4 hx4
          by_cases hR : R = []
          · have hE := txt_empty hR
            have HRR := Lib.hid hR
            clear hR
            by_cases hki : i < k
            · have hfx : f ≠ x := by have := HK.out.2.1; omega
              have hki' : (i : Int) < (k : Int) := by omega
              go_wp2_with fail
              go_quiet (fail)
              go_wp2_with fail
              refine (digits_any f hf4 _).mono ?_
              rintro e w2 ⟨rfl, hb2⟩
              have HB2 := Lib.hid ((below_drewN HK.out.1.2 _).trans (hb2.mono HK.out.1.2.size))
              have qk2 := (hb2.cell (p := ⟨b, o + k, none⟩) (Nat.lt_of_lt_of_le hbw HK.out.1.2.size)).trans qk
              clear hb2 qk qi
              go_wp2_with fail
              refine (digits_any x hx4 _).mono ?_
              rintro e w3 ⟨rfl, hb3⟩
              have HB3 := Lib.hid (HB2.out.trans (hb3.mono HB2.out.size))
              clear hb3
              go_wp2_with fail
              go_roundw
              case rel =>
                refine ⟨k + 1, R ++ [(f, x)], by omega, by go_num, ?_, ?_, HB3.out⟩
                · exact congrArg Value.string (text_two0 HRR.out hfx)
                · have := HS.out.1.step HH.out.2.1 HH.out.2.2 hik HK.out.1.1 (fun z hz => by have := (List.getElem?_eq_some_iff.1 hz).1; have := HN.out; omega)
                  rwa [← HK.out.2.1] at this
              case measure => simp [intOf]; omega
            · obtain rfl : i = k := by omega
              have hfx : x = f := by have := HK.out.2.1; omega
              have hki' : ¬ (i : Int) < (i : Int) := by omega
              go_wp2_with fail
              go_quiet (fail)
              go_wp2_with fail
              refine (digits_any f hf4 _).mono ?_
              rintro e w2 ⟨rfl, hb2⟩
              have HB2 := Lib.hid ((below_drewN HK.out.1.2 _).trans (hb2.mono HK.out.1.2.size))
              clear hb2 qk qi
              go_wp2_with fail
              go_roundw
              case rel =>
                refine ⟨i + 1, R ++ [(f, x)], by omega, by go_num, ?_, ?_, HB2.out⟩
                · exact congrArg Value.string (text_one0 HRR.out hfx)
                · have := HS.out.1.step HH.out.2.1 HH.out.2.2 hik HK.out.1.1 (fun z hz => by have := (List.getElem?_eq_some_iff.1 hz).1; have := HN.out; omega)
                  rwa [← HK.out.2.1] at this
              case measure => simp [intOf]; omega
          · have hE := txt_full hR
            have HRR := Lib.hid hR
            clear hR
            by_cases hki : i < k
            · have hfx : f ≠ x := by have := HK.out.2.1; omega
              have hki' : (i : Int) < (k : Int) := by omega
              go_wp2_with fail
              go_quiet (fail)
              go_wp2_with fail
              refine (digits_any f hf4 _).mono ?_
              rintro e w2 ⟨rfl, hb2⟩
              have HB2 := Lib.hid ((below_drewN HK.out.1.2 _).trans (hb2.mono HK.out.1.2.size))
              have qk2 := (hb2.cell (p := ⟨b, o + k, none⟩) (Nat.lt_of_lt_of_le hbw HK.out.1.2.size)).trans qk
              clear hb2 qk qi
              go_wp2_with fail
              refine (digits_any x hx4 _).mono ?_
              rintro e w3 ⟨rfl, hb3⟩
              have HB3 := Lib.hid (HB2.out.trans (hb3.mono HB2.out.size))
              clear hb3
              go_wp2_with fail
              go_roundw
              case rel =>
                refine ⟨k + 1, R ++ [(f, x)], by omega, by go_num, ?_, ?_, HB3.out⟩
                · exact congrArg Value.string (text_two HRR.out hfx)
                · have := HS.out.1.step HH.out.2.1 HH.out.2.2 hik HK.out.1.1 (fun z hz => by have := (List.getElem?_eq_some_iff.1 hz).1; have := HN.out; omega)
                  rwa [← HK.out.2.1] at this
              case measure => simp [intOf]; omega
            · obtain rfl : i = k := by omega
              have hfx : x = f := by have := HK.out.2.1; omega
              have hki' : ¬ (i : Int) < (i : Int) := by omega
              go_wp2_with fail
              go_quiet (fail)
              go_wp2_with fail
              refine (digits_any f hf4 _).mono ?_
              rintro e w2 ⟨rfl, hb2⟩
              have HB2 := Lib.hid ((below_drewN HK.out.1.2 _).trans (hb2.mono HK.out.1.2.size))
              clear hb2 qk qi
              go_wp2_with fail
              go_roundw
              case rel =>
                refine ⟨i + 1, R ++ [(f, x)], by omega, by go_num, ?_, ?_, HB2.out⟩
                · exact congrArg Value.string (text_one HRR.out hfx)
                · have := HS.out.1.step HH.out.2.1 HH.out.2.2 hik HK.out.1.1 (fun z hz => by have := (List.getElem?_eq_some_iff.1 hz).1; have := HN.out; omega)
                  rwa [← HK.out.2.1] at this
              case measure => simp [intOf]; omega
    · have hii : i = n := by omega
      subst hii
      clear hs hb
      go_wp2_with fail
      go_ret
      refine ⟨ret_str (congrArg bs ?_), HS.out.2⟩
      have := HS.out.1
      rw [HN.out] at this
      exact this.fin HH.out.2.1 HH.out.2.2
end Go.Proofs.YtalfjcamjdmdjaaDoor
