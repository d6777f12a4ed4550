/-
  samaritanref31.words, Text: what each returns.
-/
import Derived.Test.YtcpplebgocbnhaaDoorNames
import Derived.Test.YtcpplebgocbnhaaDoorSpanR
namespace Go.Proofs.YtcpplebgocbnhaaDoor
open Go.RowKit Go.Maps

/-- where the loop of words stands: k bytes seen, the piece that is open begins at a, L are the pieces so far. -/
def WordsAt (s : ByteArray) (L : List ByteArray) (a k : Nat) : Prop :=
  (k ≤ s.size ∧ a ≤ k ∧ L.length ≤ k ∧ L.map (·.data.toList) ++ cutsFrom ((s.data.toList.drop a).take (k - a)) (s.data.toList.drop k) = cutsFrom [] s.data.toList) ∨
  (k = s.size + 1 ∧ a ≤ k ∧ L.length ≤ k ∧ L.map (·.data.toList) = cutsFrom [] s.data.toList)

theorem drop_at {s : ByteArray} {k : Nat} (h : k < s.size) : s.data.toList.drop k = s[k] :: s.data.toList.drop (k + 1) := by
  have hl : k < s.data.toList.length := by simpa using h
  rw [List.drop_eq_getElem_cons hl]
  rfl
theorem words_end {s : ByteArray} {L : List ByteArray} {a : Nat} (h : WordsAt s L a s.size) : WordsAt s (L ++ [s.extract a s.size]) (s.size + 1) (s.size + 1) := by
  rcases h with ⟨_, h2, h3, h4⟩ | ⟨h1, _⟩
  · refine .inr ⟨rfl, Nat.le_refl _, by simp; omega, ?_⟩
    rw [← h4, show s.data.toList.drop s.size = [] from List.drop_eq_nil_of_le (by simp), cutsFrom, List.map_append, List.map_cons, List.map_nil, Lib.extract_data]
  · omega
theorem words_blankAt {s : ByteArray} {L : List ByteArray} {a k : Nat} (h : WordsAt s L a k) (hk : k < s.size) (hc : s[k] = 32) : WordsAt s (L ++ [s.extract a k]) (k + 1) (k + 1) := by
  rcases h with ⟨_, h2, h3, h4⟩ | ⟨h1, _⟩
  · refine .inl ⟨by omega, Nat.le_refl _, by simp; omega, ?_⟩
    rw [← h4, drop_at hk, cutsFrom, if_pos hc, List.map_append, List.map_cons, List.map_nil, Lib.extract_data]
    simp
  · omega
theorem words_more {s : ByteArray} {L : List ByteArray} {a k : Nat} (h : WordsAt s L a k) (hk : k < s.size) (hc : s[k] ≠ 32) : WordsAt s L a (k + 1) := by
  rcases h with ⟨_, h2, h3, h4⟩ | ⟨h1, _⟩
  · refine .inl ⟨by omega, by omega, by omega, ?_⟩
    rw [← h4, drop_at hk, cutsFrom, if_neg hc]
    have e : (s.data.toList.drop a).take (k + 1 - a) = (s.data.toList.drop a).take (k - a) ++ [s[k]] := by
      have hl : k - a < (s.data.toList.drop a).length := by simp; omega
      rw [show k + 1 - a = (k - a) + 1 by omega, List.take_succ_eq_append_getElem hl]
      congr 1
      simp only [List.getElem_drop, show a + (k - a) = k by omega]
      rfl
    rw [e]
  · omega

def RetWords (s : ByteArray) (w : World) (e : Ending) (w' : World) : Prop :=
  ∃ (v : Value) (L : List ByteArray), e = .returned v ∧ L.map (·.data.toList) = cutsFrom [] s.data.toList ∧ OwnV Value.string w' w.heap.size 9 v L ∧ Below w.heap.size w w'

set_option maxRecDepth 100000 in
set_option maxHeartbeats 1000000 in
theorem words_any (s : ByteArray) (hs : s.size ≤ 1099511627) (w : World) :
    Calls Tryd.prog 53 #[.string s] w (RetWords s w) := by
  go_enter Tryd.func53, Tryd.ntmps53
  go_wp2_with fail
  go_loopw [3, 4, 5] (fun v av iv wr => ∃ (L : List ByteArray) (a k : Nat), WordsAt s L a k ∧ iv = .int .i64 k ∧ av = .int .i64 a ∧ OwnV Value.string wr w.heap.size 9 v L ∧ Below w.heap.size w wr) (fun _ _ i _ => s.size + 1 - (intOf i).toNat)
  case atStart => exact ⟨[], 0, 0, .inl ⟨by omega, by omega, by simp, rfl⟩, rfl, rfl, OwnV.nil _ _ _, Below.refl _ _⟩
  case round =>
    obtain ⟨L, a, k, hat, rfl, rfl, hown, hb⟩ := hrel
    have hk1 : k ≤ s.size + 1 := by rcases hat with ⟨h, _⟩ | ⟨h, _⟩ <;> omega
    have hak : a ≤ k := by rcases hat with ⟨_, h, _⟩ | ⟨_, h, _⟩ <;> omega
    have hLk : L.length ≤ k := by rcases hat with ⟨_, _, h, _⟩ | ⟨_, _, h, _⟩ <;> omega
    have HAT := Lib.hid hat
    have HB := Lib.hid hb
    clear hat hb
    by_cases hend : k = s.size + 1
    · have hv : L.map (·.data.toList) = cutsFrom [] s.data.toList := by
        rcases HAT.out with ⟨h, _⟩ | ⟨_, _, _, h⟩
        · omega
        · exact h
      have HV := Lib.hid hv
      have hlt : ¬ (k : Int) ≤ (s.size : Int) := by omega
      clear hv hend
      go_wp2_with fail
      go_ret
      exact ⟨_, L, rfl, HV.out, hown, HB.out⟩
    · by_cases hlast : k = s.size
      · subst hlast
        have HN := Lib.hid (words_end HAT.out)
        clear hend
        have hle : (s.size : Int) ≤ (s.size : Int) := by omega
        have hq : ((s.size : Int) == (s.size : Int)) = true := by simp
        go_wp2_with (at_builtin; refine wpList_append_one (f := Value.string) _ rfl _ _ 52 rfl w.heap.size 9 Tryd.underlying52 str_info rfl (by omega) _ _ wr (s.extract a s.size) rfl rfl rfl hown rfl (by omega) HB.out.size ?_; intro v2 w2 hown2 hg)
        go_roundw
        case rel => exact ⟨L ++ [s.extract a s.size], s.size + 1, s.size + 1, HN.out, by go_num, by go_num, hown2, HB.out.grown hg HB.out.size hown.ge_base⟩
        case measure => simp [intOf]
      · have hks : k < s.size := by omega
        have hq : ((k : Int) == (s.size : Int)) = false := by simp; omega
        have hle : (k : Int) ≤ (s.size : Int) := by omega
        clear hend hlast
        by_cases hc : s[k] = 32
        · have HN := Lib.hid (words_blankAt HAT.out hks hc)
          have e1 : ((s[k].toNat : Int) == 32) = true := by rw [hc]; decide
          clear hc
          go_wp2_with (at_builtin; refine wpList_append_one (f := Value.string) _ rfl _ _ 52 rfl w.heap.size 9 Tryd.underlying52 str_info rfl (by omega) _ _ wr (s.extract a k) rfl rfl rfl hown rfl (by omega) HB.out.size ?_; intro v2 w2 hown2 hg)
          go_roundw
          case rel => exact ⟨L ++ [s.extract a k], k + 1, k + 1, HN.out, by go_num, by go_num, hown2, HB.out.grown hg HB.out.size hown.ge_base⟩
          case measure => simp [intOf]; omega
        · have HN := Lib.hid (words_more HAT.out hks hc)
          have e1 : ((s[k].toNat : Int) == 32) = false := by
            rw [beq_eq_false_iff_ne]
            intro e
            apply hc
            apply UInt8.toNat_inj.1
            have : s[k].toNat = 32 := by omega
            exact this
          clear hc
          go_wp2_with fail
          go_roundw
          case rel => exact ⟨L, a, k + 1, HN.out, by go_num, rfl, hown, HB.out⟩
          case measure => simp [intOf]; omega

/-- the text of a plan whose first k kinds are laid. -/
def textK (p : Plan) (k : Nat) : List UInt8 := planW ++ ([32] ++ p.code.data.toList ++ ([32] ++ Lib.decDigits p.urg.toNat ++ Lib.joinTail [32] ((p.kinds.take k).map kindName)))
theorem textK_all (p : Plan) : textK p p.kinds.length = textP p := by
  unfold textK textP wordsP
  rw [Lib.join_cons, List.take_length]
  simp [Lib.joinTail]
theorem textK_succ {p : Plan} {k : Nat} {z : Int} (h : p.kinds[k]? = some z) : textK p (k + 1) = textK p k ++ ([32] ++ kindName z) := by
  unfold textK
  rw [take_snoc h]
  simp [Lib.joinTail]
theorem textK_len {p : Plan} (h : validB p = true) (k : Nat) : (textK p k).length ≤ 200 := by
  have e : ∃ t, textP p = textK p k ++ t := by
    refine ⟨Lib.joinTail [32] ((p.kinds.drop k).map kindName), ?_⟩
    rw [← textK_all]
    unfold textK
    rw [List.take_length]
    have e1 : p.kinds.map kindName = (p.kinds.take k).map kindName ++ (p.kinds.drop k).map kindName := by rw [← List.map_append, List.take_append_drop]
    have e2 : ∀ a b : List (List UInt8), Lib.joinTail [32] (a ++ b) = Lib.joinTail [32] a ++ Lib.joinTail [32] b := by intro a b; simp [Lib.joinTail]
    rw [e1, e2]
    simp only [List.append_assoc]
  obtain ⟨t, e⟩ := e
  have h1 := text_len h
  rw [e, List.length_append] at h1
  omega

/-- what Text and Format return. -/
def RetText (p : Plan) (w : World) (e : Ending) (w' : World) : Prop :=
  e = .returned (.tuple #[.string (if validB p = true then bs (textP p) else ⟨#[]⟩), .int .i64 (if validB p = true then 0 else 1)]) ∧ Below w.heap.size w w'

set_option maxRecDepth 100000 in
set_option maxHeartbeats 1000000 in
theorem text31_any (p : Plan) (w : World) (hs : Sl w w.heap.size p.kA (p.kinds.map (Value.int .i64))) (hw : PlanWf p) :
    Calls Tryd.prog 28 #[.agg #[.string p.code, .int .i64 p.urg, .slice p.kA p.kinds.length p.kc]] w (RetText p w) := by
  have hcs := hw.code
  have hkc := hw.cap
  have hkl := hw.len
  have hbel : Below w.heap.size w (w.alloc (.cells #[.string p.code, .int .i64 p.urg, .slice p.kA p.kinds.length p.kc] 35)) := (Below.refl _ _).alloc (Nat.le_refl _) _
  have hs1 := hs.alloc (Nat.le_refl _) (.cells #[.string p.code, .int .i64 p.urg, .slice p.kA p.kinds.length p.kc] 35)
  have hone := one_any p (w.alloc (.cells #[.string p.code, .int .i64 p.urg, .slice p.kA p.kinds.length p.kc] 35)) (hs1.more (by simp)) hw
  have HB := Lib.hid hbel
  have HS := Lib.hid hs1
  have HONE := Lib.hid hone
  clear hbel hs1 hone hs hw
  go_enter Tryd.func28, Tryd.ntmps28
  go_wp2_with fail
  refine HONE.out.mono ?_
  rintro e w1 ⟨rfl, hb1⟩
  cases hv : validB p
  · have HV := Lib.hid hv
    have HB1 := Lib.hid (below_then HB.out hb1)
    clear hv hb1
    go_wp2_with fail
    go_ret2
    refine ⟨?_, HB1.out⟩
    rw [HV.out]
    rfl
  · obtain ⟨v1, v2, _, v4, v5, _, v7, v8⟩ := valid_parts hv
    have c0 : w1.cell? ⟨w.heap.size, 0, none⟩ = some (.string p.code) := (hb1.cell (p := ⟨w.heap.size, 0, none⟩) (by simp)).trans (by simp)
    have c1 : w1.cell? ⟨w.heap.size, 1, none⟩ = some (.int .i64 p.urg) := (hb1.cell (p := ⟨w.heap.size, 1, none⟩) (by simp)).trans (by simp)
    have c2 : w1.cell? ⟨w.heap.size, 2, none⟩ = some (.slice p.kA p.kinds.length p.kc) := (hb1.cell (p := ⟨w.heap.size, 2, none⟩) (by simp)).trans (by simp)
    have hs2 := (HS.out.more (show w.heap.size ≤ (w.alloc (.cells #[.string p.code, .int .i64 p.urg, .slice p.kA p.kinds.length p.kc] 35)).heap.size by simp)).below hb1
    have hz1 : w.heap.size + 1 ≤ w1.heap.size := by have := hb1.size; simpa using this
    have HB1 := Lib.hid (below_then HB.out hb1)
    have HV := Lib.hid hv
    have HV8 := Lib.hid v8
    have HS2 := Lib.hid hs2
    have hcv := byte_conv w1 p.urg (by omega) (by omega)
    have hdl := dec_len p.urg (by omega)
    clear hv hb1 v8 hs2 HS
    go_wp2_with fail
    have HB2 := Lib.hid (HB1.out.alloc (show w.heap.size ≤ w1.heap.size by omega) (.cells #[.int .u8 (48 + p.urg)] 5))
    have hs3 := (HS2.out.more (show _ ≤ w1.heap.size by simpa using hz1)).alloc (Nat.le_refl _) (.cells #[.int .u8 (48 + p.urg)] 5)
    have d2 : (w1.alloc (.cells #[.int .u8 (48 + p.urg)] 5)).cell? ⟨w.heap.size, 2, none⟩ = some (.slice p.kA p.kinds.length p.kc) := (World.cell?_alloc_lt w1 _ ⟨w.heap.size, 2, none⟩ (by show w.heap.size < _; omega)).trans c2
    obtain ⟨w2, hw2⟩ : ∃ w2, w2 = w1.alloc (.cells #[.int .u8 (48 + p.urg)] 5) := ⟨_, rfl⟩
    rw [← hw2] at HB2 hs3 d2 ⊢
    obtain ⟨b, o, hA, _, _⟩ := hs3.int (j := 0) (z := p.kinds[0]'(by omega)) (by simp)
    rw [hA] at hs3 d2 ⊢
    clear hA
    have HS3 := Lib.hid hs3
    clear hw2 hcv c0 c1 c2 hs3 HS2 HB1
    go_loop [4, 5] (fun sv iv => ∃ k : Nat, k ≤ p.kinds.length ∧ iv = .int .i64 k ∧ sv = .string (bs (textK p k))) (fun _ i => p.kinds.length - (intOf i).toNat)
    case atStart =>
      refine ⟨0, Nat.zero_le _, rfl, str_eq ?_⟩
      rw [bs_of p.code, show (⟨#[112, 108, 97, 110, 32]⟩ : ByteArray) = bs [112, 108, 97, 110, 32] from rfl, show (⟨#[32]⟩ : ByteArray) = bs [32] from rfl, bs_append, bs_append, bs_append]
      simp [textK, planW, Lib.joinTail]
    case round =>
      obtain ⟨k, hk, rfl, rfl⟩ := hrel
      by_cases hlt : k < p.kinds.length
      · obtain ⟨z, hz⟩ : ∃ z, p.kinds[k]? = some z := ⟨p.kinds[k], by simp⟩
        obtain ⟨b', o', hA, _, hcz⟩ := HS3.out.int hz
        injection hA with hA
        injection hA with h1 h2
        subst h1 h2
        have HT := Lib.hid (textK_succ hz)
        have l1 : (bs (textK p k)).size ≤ 200 := by rw [bs_size]; exact textK_len HV.out k
        have l2 : (bs (kindName z)).size ≤ 6 := by
          rw [bs_size]
          unfold kindName
          split
          · simp
          · split
            · simp
            · split <;> simp
        clear hz
        go_wp2_with fail
        refine (word_any z _).mono ?_
        rintro e w' ⟨rfl, rfl⟩
        go_wp2_with fail
        go_round
        case rel =>
          refine ⟨k + 1, by omega, by go_num, str_eq ?_⟩
          rw [show (⟨#[32]⟩ : ByteArray) = bs [32] from rfl, bs_append, bs_append, HT.out]
          simp
        case measure => simp [intOf]; omega
      · have hkk : k = p.kinds.length := by omega
        subst hkk
        go_wp2_with fail
        go_ret2
        refine ⟨?_, HB2.out⟩
        rw [if_pos HV.out, if_pos HV.out, textK_all]
        rfl
end Go.Proofs.YtcpplebgocbnhaaDoor
