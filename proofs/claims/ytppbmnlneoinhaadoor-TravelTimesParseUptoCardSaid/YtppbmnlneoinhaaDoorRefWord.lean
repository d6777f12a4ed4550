/-
  The reference's number and change: what they return, for every text.
  The reference's change: a text cut at its blanks, three words read as a change.
  Plain: where the reference's Parse stands in its text.
  No condition: plain lemmas.
-/
import Derived.Test.YtppbmnlneoinhaaDoorRefL
import Derived.Test.YtppbmnlneoinhaaDoorParsA
import Derived.Lib.Strings
namespace Go.Proofs.YtppbmnlneoinhaaDoor
section
open Go.RowKit Go.Maps

/-- the loop of number. -/
def numGo : Int → List UInt8 → Int
  | n, [] => n
  | n, c :: r => if (c.toNat < 48 ∨ 57 < c.toNat) ∨ 1099511627776 < n then -1 else numGo (n * 10 + (c.toNat - 48)) r
def numR (l : List UInt8) : Int := if l = [] ∨ numGo 0 l < 0 ∨ Lib.itoa (numGo 0 l) ≠ l then -1 else numGo 0 l
theorem numGo_range : ∀ (l : List UInt8) (n : Int), 0 ≤ n → n ≤ 10995116277769 → -1 ≤ numGo n l ∧ numGo n l ≤ 10995116277769
  | [], n, h0, h1 => ⟨by show -1 ≤ n; omega, h1⟩
  | c :: r, n, h0, h1 => by
    unfold numGo
    split
    · omega
    · exact numGo_range r _ (by omega) (by omega)
theorem numR_range (l : List UInt8) : -1 ≤ numR l ∧ numR l ≤ 10995116277769 := by
  unfold numR
  split
  · omega
  · exact numGo_range l 0 (by omega) (by omega)
theorem numGo_digits : ∀ (l : List UInt8) (n : Nat), (∀ c ∈ l, isDig c) → valFrom n l ≤ 1099511627776 → numGo n l = valFrom n l
  | [], n, _, _ => by rw [valFrom_nil]; rfl
  | c :: r, n, hd, hv => by
    have hc : isDig c := hd c (by simp)
    have h1 := valFrom_ge r (n * 10 + (c.toNat - 48))
    rw [valFrom_cons] at hv ⊢
    unfold isDig at hc
    unfold numGo
    rw [if_neg (by omega)]
    have e : (n : Int) * 10 + ((c.toNat : Int) - 48) = ((n * 10 + (c.toNat - 48) : Nat) : Int) := by omega
    rw [e]
    exact numGo_digits r _ (fun x hx => hd x (by simp [hx])) hv
theorem numR_itoa {k : Int} (h0 : 0 ≤ k) (h1 : k ≤ 1099511627776) : numR (Lib.itoa k) = k := by
  have e : numGo 0 (Lib.itoa k) = k := by
    rw [itoa_nat h0]
    have := numGo_digits (Lib.decDigits k.toNat) 0 (dec_dig _) (by rw [val_dec]; omega)
    rw [val_dec] at this
    have e0 : ((0 : Nat) : Int) = 0 := rfl
    rw [e0] at this
    rw [this]
    omega
  unfold numR
  rw [e, if_neg]
  intro q
  rcases q with q | q | q
  · rw [itoa_nat h0] at q
    exact dec_ne _ q
  · omega
  · exact q rfl
theorem numR_text {l : List UInt8} (h : 0 ≤ numR l) : Lib.itoa (numR l) = l := by
  unfold numR at h ⊢
  split at h
  · omega
  · rename_i q
    rw [if_neg q]
    rcases Classical.em (Lib.itoa (numGo 0 l) = l) with e | e
    · exact e
    · exact absurd (.inr (.inr e)) q

theorem byte_test {c : UInt8} (n : Nat) : decide ((c.toNat : Int) < (n : Int)) = decide (c.toNat < n) := by
  rw [Bool.eq_iff_iff]
  simp

set_option maxRecDepth 100000 in
set_option maxHeartbeats 2000000 in
theorem number_any (s : ByteArray) (hs : s.size ≤ 1099511627) (w : World) :
    Calls Tryd.prog 48 #[.string s] w fun e w' => e = .returned (.int .i64 (numR s.data.toList)) ∧ ∃ m, w' = w.drewN m := by
  go_enter Tryd.func48, Tryd.ntmps48
  go_wp2_with fail
  go_loop [3, 4] (fun nv i => ∃ (k : Nat) (n : Int), k ≤ s.size ∧ i = .int .i64 k ∧ nv = .int .i64 n ∧ 0 ≤ n ∧ n ≤ 10995116277769 ∧ numGo 0 s.data.toList = numGo n (s.data.toList.drop k)) (fun _ i => s.size - (intOf i).toNat)
  case atStart => exact ⟨0, 0, by omega, rfl, rfl, by omega, by omega, rfl⟩
  case round =>
    obtain ⟨k, n, hk, rfl, rfl, h0, h1, hgo⟩ := hrel
    have HG := Lib.hid hgo
    clear hgo
    by_cases hlt : k < s.size
    · have hdr : s.data.toList.drop k = s[k] :: s.data.toList.drop (k + 1) := by
        have hl : k < s.data.toList.length := by simpa using hlt
        rw [List.drop_eq_getElem_cons hl]
        rfl
      have HD := Lib.hid (show numGo 0 s.data.toList = (if (s[k].toNat < 48 ∨ 57 < s[k].toNat) ∨ 1099511627776 < n then -1 else numGo (n * 10 + (s[k].toNat - 48)) (s.data.toList.drop (k + 1))) from by
        rw [HG.out, hdr]
        rfl)
      clear hdr
      by_cases hbad : (s[k].toNat < 48 ∨ 57 < s[k].toNat) ∨ 1099511627776 < n
      · have HN := Lib.hid (show numR s.data.toList = -1 from by
          have := HD.out
          rw [if_pos hbad] at this
          unfold numR
          rw [this, if_pos (.inr (.inl (by omega)))])
        clear HD HG
        by_cases hc1 : s[k].toNat < 48
        · clear hbad
          go_wp2_with fail
          all_goals
            go_ret
            exact ⟨ret_int HN.out.symm, 0, rfl⟩
        · by_cases hc2 : 57 < s[k].toNat
          · clear hbad
            go_wp2_with fail
            all_goals
              go_ret
              exact ⟨ret_int HN.out.symm, 0, rfl⟩
          · have hn : 1099511627776 < n := by omega
            clear hbad
            go_wp2_with fail
            all_goals
              go_ret
              exact ⟨ret_int HN.out.symm, 0, rfl⟩
      · have hc1 : ¬ s[k].toNat < 48 := by omega
        have hc2 : ¬ 57 < s[k].toNat := by omega
        have hn : ¬ 1099511627776 < n := by omega
        have HN := Lib.hid (HD.out.trans (if_neg hbad))
        clear hbad HD HG
        go_wp2_with fail
        go_round
        case rel => exact ⟨k + 1, _, by omega, by go_num, rfl, by omega, by omega, HN.out⟩
        case measure => simp [intOf]; omega
    · have hkk : k = s.size := by omega
      subst hkk
      have hdr : s.data.toList.drop s.size = [] := List.drop_eq_nil_of_le (by simp)
      have HN := Lib.hid (show numGo 0 s.data.toList = n from by rw [HG.out, hdr]; rfl)
      clear hdr HG
      by_cases hz : s.size = 0
      · have hv : numR s.data.toList = -1 := by
          unfold numR
          rw [if_pos (.inl (List.length_eq_zero_iff.1 (by simpa using hz)))]
        have HV := Lib.hid hv
        have hz' : (s.size : Int) = 0 := by omega
        clear hv hz
        go_wp2_with fail
        go_ret
        exact ⟨ret_int HV.out.symm, 0, rfl⟩
      · have hne : s.data.toList ≠ [] := fun e => hz (by
          have := congrArg List.length e
          simpa using this)
        have hz' : ¬ (s.size : Int) = 0 := by omega
        have HM := Lib.hid (fun W : World => num8_any n h0 (by omega) W)
        by_cases e : Lib.itoa n = s.data.toList
        · have hv : numR s.data.toList = n := by
            unfold numR
            rw [HN.out, if_neg]
            intro q
            rcases q with q | q | q
            · exact hne q
            · omega
            · exact q e
          have hee : ((bs (Lib.itoa n)).toList == s.toList) = true := by
            rw [Lib.toList_data, Lib.toList_data, bs_data, e]
            simp
          have HV := Lib.hid hv
          clear hv e hne hz
          go_wp2_with fail
          refine (HM.out _).mono ?_
          rintro e w' ⟨rfl, m, rfl⟩
          go_wp2_with fail
          go_ret
          exact ⟨ret_int HV.out.symm, _, rfl⟩
        · have hv : numR s.data.toList = -1 := by
            unfold numR
            rw [HN.out, if_pos (.inr (.inr e))]
          have hee : ((bs (Lib.itoa n)).toList == s.toList) = false := by
            rw [Lib.toList_data, Lib.toList_data, bs_data]
            simpa using e
          have HV := Lib.hid hv
          clear hv e hne hz
          go_wp2_with fail
          refine (HM.out _).mono ?_
          rintro e w' ⟨rfl, m, rfl⟩
          go_wp2_with fail
          go_ret
          exact ⟨ret_int HV.out.symm, _, rfl⟩
end
section
open Go.RowKit Go.Maps

/-- where the loop stands: k bytes seen, the piece that is open begins at a, L are the pieces so far. -/
def WordsAt (s : ByteArray) (L : List ByteArray) (a k : Nat) : Prop :=
  (k ≤ s.size ∧ a ≤ k ∧ L.length ≤ k ∧ L.map (·.data.toList) ++ cutsFrom ((s.data.toList.drop a).take (k - a)) (s.data.toList.drop k) = cutsFrom [] s.data.toList) ∨
  (k = s.size + 1 ∧ a ≤ k ∧ L.length ≤ k ∧ L.map (·.data.toList) = cutsFrom [] s.data.toList)

theorem drop_at {s : ByteArray} {k : Nat} (h : k < s.size) : s.data.toList.drop k = s[k] :: s.data.toList.drop (k + 1) := by
  have hl : k < s.data.toList.length := by simpa using h
  rw [List.drop_eq_getElem_cons hl]
  rfl
theorem words_end {s : ByteArray} {L : List ByteArray} {a : Nat} (h : WordsAt s L a s.size) : WordsAt s (L ++ [s.extract a s.size]) (s.size + 1) (s.size + 1) := by
  rcases h with ⟨_, h2, h3, h4⟩ | ⟨h1, _⟩
  · refine .inr ⟨rfl, Nat.le_refl _, by simp; omega, ?_⟩
    rw [← h4, show s.data.toList.drop s.size = [] from List.drop_eq_nil_of_le (by simp), cutsFrom, List.map_append, List.map_cons, List.map_nil, Lib.extract_data]
  · omega
theorem words_blankAt {s : ByteArray} {L : List ByteArray} {a k : Nat} (h : WordsAt s L a k) (hk : k < s.size) (hc : s[k] = 32) : WordsAt s (L ++ [s.extract a k]) (k + 1) (k + 1) := by
  rcases h with ⟨_, h2, h3, h4⟩ | ⟨h1, _⟩
  · refine .inl ⟨by omega, Nat.le_refl _, by simp; omega, ?_⟩
    rw [← h4, drop_at hk, cutsFrom, if_pos hc, List.map_append, List.map_cons, List.map_nil, Lib.extract_data]
    simp
  · omega
theorem words_more {s : ByteArray} {L : List ByteArray} {a k : Nat} (h : WordsAt s L a k) (hk : k < s.size) (hc : s[k] ≠ 32) : WordsAt s L a (k + 1) := by
  rcases h with ⟨_, h2, h3, h4⟩ | ⟨h1, _⟩
  · refine .inl ⟨by omega, by omega, by omega, ?_⟩
    rw [← h4, drop_at hk, cutsFrom, if_neg hc]
    have e : (s.data.toList.drop a).take (k + 1 - a) = (s.data.toList.drop a).take (k - a) ++ [s[k]] := by
      have hl : k - a < (s.data.toList.drop a).length := by simp; omega
      rw [show k + 1 - a = (k - a) + 1 by omega, List.take_succ_eq_append_getElem hl]
      congr 1
      simp only [List.getElem_drop, show a + (k - a) = k by omega]
      rfl
    rw [e]
  · omega

/-- what change reads. -/
def chgR (l : List UInt8) : ChgT × Bool :=
  match cutsFrom [] l with
  | [x, y, z] => (⟨numR x, numR y, if z = [99, 108, 111, 115, 101, 100] then 4611686018427387904 else numR z⟩, decide (0 ≤ numR x) && decide (0 ≤ numR y) && decide (0 ≤ (if z = [99, 108, 111, 115, 101, 100] then 4611686018427387904 else numR z)))
  | _ => (⟨0, 0, 0⟩, false)
theorem lineW_join (c : ChgT) : lineW c = Lib.join (wordsC c) [32] := by
  have := line_join c
  rw [← lineW_nl] at this
  exact List.append_cancel_right this
theorem chgR_line {c : ChgT} (h : okR c) : chgR (lineW c) = (c, true) := by
  unfold chgR
  rw [lineW_join, cuts_join _ (by simp [wordsC]) (words_clean_all c)]
  unfold wordsC
  unfold okR at h
  simp only
  rw [numR_itoa (by omega) (by omega), numR_itoa (by omega) (by omega)]
  have e : (if timeText c.time = [99, 108, 111, 115, 101, 100] then 4611686018427387904 else numR (timeText c.time)) = c.time := by
    unfold timeText
    split
    · rename_i q
      rw [if_pos rfl, q]
    · have hn : Lib.itoa c.time ≠ [99, 108, 111, 115, 101, 100] := fun e => by
        have := itoa_chr c.time 99 (by rw [e]; simp)
        unfold isDig at this
        exact absurd this (by decide)
      rw [if_neg hn, numR_itoa (by omega) (by omega)]
  rw [e]
  simp
  omega
theorem chgR_text {l : List UInt8} {c : ChgT} (h : chgR l = (c, true)) : lineW c = l ∧ posC c := by
  unfold chgR at h
  split at h
  · rename_i x y z hq
    injection h with h1 h2
    simp only [Bool.and_eq_true, decide_eq_true_eq] at h2
    obtain ⟨⟨hx, hy⟩, hz⟩ := h2
    subst h1
    have rx := numR_range x
    have ry := numR_range y
    have rz := numR_range z
    refine ⟨?_, ?_⟩
    · have hj := join_cuts [] l
      rw [hq, List.nil_append] at hj
      rw [lineW_join, ← hj]
      unfold wordsC
      simp only
      rw [numR_text hx, numR_text hy]
      congr 3
      unfold timeText
      split at hz
      · rename_i e
        rw [if_pos e, if_pos rfl, e]
      · rename_i e
        rw [if_neg e, if_neg (by omega), numR_text hz]
    · unfold posC
      simp only
      split
      · omega
      · rename_i e
        rw [if_neg e] at hz
        omega
  · injection h with _ h2
    cases h2
end
section
/-- k bytes seen; the changes L lie behind the first a of them, the open line begins at a. -/
structure TxtAt (m : Nat) (s : List UInt8) (L : List ChgT) (a k : Nat) : Prop where
  ok : validL m L
  text : s.take a = textC L
  le : a ≤ k
  size : k ≤ s.length
  open' : (10 : UInt8) ∉ (s.drop a).take (k - a)
  len : L.length ≤ a
theorem txt_start (m : Nat) (s : List UInt8) : TxtAt m s [] 0 0 := ⟨valid_nil m, by simp [textC], Nat.le_refl _, Nat.zero_le _, by simp, Nat.le_refl _⟩
section
variable {m : Nat} {s : List UInt8} {L : List ChgT} {a k : Nat}
theorem take_one (hk : k < s.length) (hle : a ≤ k) : (s.drop a).take (k + 1 - a) = (s.drop a).take (k - a) ++ [s[k]] := by
  have hl : k - a < (s.drop a).length := by simp; omega
  rw [show k + 1 - a = (k - a) + 1 by omega, List.take_succ_eq_append_getElem hl]
  congr 1
  simp only [List.getElem_drop, show a + (k - a) = k by omega]
theorem TxtAt.more (h : TxtAt m s L a k) (hk : k < s.length) (hc : s[k] ≠ 10) : TxtAt m s L a (k + 1) := by
  refine ⟨h.ok, h.text, by have := h.le; omega, by omega, ?_, h.len⟩
  rw [take_one hk h.le]
  intro hm
  rcases List.mem_append.1 hm with hm | hm
  · exact h.open' hm
  · exact hc (List.mem_singleton.1 hm).symm
theorem TxtAt.rest (h : TxtAt m s L a k) (hk : k < s.length) (hc : s[k] = 10) : s = textC L ++ ((s.drop a).take (k - a) ++ 10 :: s.drop (k + 1)) := by
  have hle := h.le
  have e1 : s.drop a = (s.drop a).take (k - a) ++ s.drop k := by
    have := (List.take_append_drop (k - a) (s.drop a)).symm
    rw [List.drop_drop, show a + (k - a) = k by omega] at this
    exact this
  have e2 : s.drop k = 10 :: s.drop (k + 1) := by rw [List.drop_eq_getElem_cons hk, hc]
  rw [← e2, ← e1, ← h.text, List.take_append_drop]
theorem TxtAt.good (h : TxtAt m s L a k) (hk : k < s.length) (hc : s[k] = 10) {c : ChgT} (hg : chgR ((s.drop a).take (k - a)) = (c, true)) (he : errC m L c = 0) : TxtAt m s (L ++ [c]) (k + 1) (k + 1) := by
  obtain ⟨e1, e2⟩ := errC_null he
  refine ⟨valid_snoc h.ok e1 e2, ?_, Nat.le_refl _, by omega, by simp, by have := h.len; have := h.le; simp; omega⟩
  have hr := h.rest hk hc
  have hl := (chgR_text hg).1
  have hle := h.le
  have hlt : (textC L).length = a := by rw [← h.text, List.length_take]; omega
  have e3 : s = textC L ++ (s.drop a).take (k - a) ++ [10] ++ s.drop (k + 1) := by
    rw [List.append_assoc, List.append_assoc]
    exact hr
  have e4 : s.take (k + 1) = textC L ++ (s.drop a).take (k - a) ++ [10] := by
    have hlen : (textC L ++ (s.drop a).take (k - a) ++ [10]).length = k + 1 := by
      simp
      omega
    have h5 : (textC L ++ (s.drop a).take (k - a) ++ [10] ++ s.drop (k + 1)).take (k + 1) = textC L ++ (s.drop a).take (k - a) ++ [10] := by
      rw [← hlen]
      exact List.take_left' rfl
    rw [← e3] at h5
    exact h5
  rw [e4, textC_snoc, ← lineW_nl, hl]
  simp
theorem TxtAt.bad (hm : m ≤ 1099511627776) (h : TxtAt m s L a k) (hk : k < s.length) (hc : s[k] = 10) (hb : ∀ c, chgR ((s.drop a).take (k - a)) = (c, true) → errC m L c ≠ 0) : Bad m s L := by
  refine ⟨h.ok, _, h.rest hk hc, by simp, fun c r hok hl e => ?_⟩
  obtain ⟨x, hx, nx⟩ := line_shape (okR_of hm hok)
  rw [hx] at e
  have e' : (s.drop a).take (k - a) ++ 10 :: s.drop (k + 1) = x ++ 10 :: r := by rw [e]; simp
  obtain ⟨e1, _⟩ := cut_first h.open' nx e'
  have e2 : lineW c = x := by
    rw [← lineW_nl] at hx
    exact List.append_cancel_right hx
  exact hb c (by rw [e1, ← e2]; exact chgR_line (okR_of hm hok)) (errC_ok hok hl)
theorem TxtAt.fine (h : TxtAt m s L s.length s.length) : Fine m s L := ⟨h.ok, by rw [← h.text, List.take_length]⟩
theorem TxtAt.tail (hm : m ≤ 1099511627776) (h : TxtAt m s L a s.length) (ha : a < s.length) : Bad m s L := by
  have ho := h.open'
  rw [List.take_of_length_le (by simp)] at ho
  refine ⟨h.ok, s.drop a, by rw [← h.text, List.take_append_drop], fun e => ?_, fun c r hok hl e => ?_⟩
  · have := congrArg List.length e
    simp at this
    omega
  · obtain ⟨x, hx, _⟩ := line_shape (okR_of hm hok)
    apply ho
    rw [e, hx]
    simp
end
end
end Go.Proofs.YtppbmnlneoinhaaDoor
