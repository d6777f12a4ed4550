/-
  samaritanref51: Words, span.
-/
import Derived.Test.YtakdkiggaalimaaGreatDoorTrXg
import Derived.Test.YtakdkiggaalimaaGreatDoorTrRl
import Derived.Test.YtakdkiggaalimaaGreatDoorTrSp
import Derived.Test.YtakdkiggaalimaaGreatDoorTrGs
namespace Go.Proofs.YtakdkiggaalimaaGreatDoor
open Go.RowKit Go.Maps

theorem strC_info : (Tryz.prog.info? 9).map (fun i => (i.zero, i.size, i.bytes)) = some (some (.string ByteArray.empty), 1, 16) := by kernel_rfl
/-- where the loop stands: k bytes seen, the word that is open begins at a, L are the words so far. -/
def WdSt (s : ByteArray) (L : List ByteArray) (a k : Nat) : Prop :=
  (k ≤ s.size ∧ a ≤ k ∧ L.length ≤ k ∧ wordsL s.data.toList = L.map (·.data.toList) ++ wordsL (s.data.toList.drop a) ∧ (32 : UInt8) ∉ (s.data.toList.drop a).take (k - a)) ∨
  (k = s.size + 1 ∧ a ≤ k ∧ L.length ≤ k ∧ wordsL s.data.toList = L.map (·.data.toList))
theorem drop_at {s : ByteArray} {k : Nat} (h : k < s.size) : s.data.toList.drop k = s[k] :: s.data.toList.drop (k + 1) := by
  have hl : k < s.data.toList.length := by simpa using h
  rw [List.drop_eq_getElem_cons hl]
  rfl
theorem wds_end {s : ByteArray} {L : List ByteArray} {a : Nat} (h : WdSt s L a s.size) : WdSt s (L ++ [s.extract a s.size]) (s.size + 1) (s.size + 1) := by
  rcases h with ⟨_, h2, h3, h4, h5⟩ | ⟨h1, _⟩
  · have e : (s.data.toList.drop a).take (s.size - a) = s.data.toList.drop a := List.take_of_length_le (by simp)
    rw [e] at h5
    refine .inr ⟨rfl, Nat.le_refl _, by simp; omega, ?_⟩
    rw [h4, words_one h5, List.map_append, List.map_cons, List.map_nil, Lib.extract_data, e]
  · omega
theorem wds_blank {s : ByteArray} {L : List ByteArray} {a k : Nat} (h : WdSt s L a k) (hk : k < s.size) (hc : s[k] = 32) : WdSt s (L ++ [s.extract a k]) (k + 1) (k + 1) := by
  rcases h with ⟨_, h2, h3, h4, h5⟩ | ⟨h1, _⟩
  · refine .inl ⟨by omega, Nat.le_refl _, by simp; omega, ?_, by simp⟩
    have e : s.data.toList.drop a = (s.data.toList.drop a).take (k - a) ++ 32 :: s.data.toList.drop (k + 1) := by
      conv => lhs; rw [← List.take_append_drop (k - a) (s.data.toList.drop a), List.drop_drop, show a + (k - a) = k by omega, drop_at hk, hc]
    rw [e, words_pre h5] at h4
    rw [h4, List.map_append, List.map_cons, List.map_nil, Lib.extract_data]
    simp
  · omega
theorem wds_more {s : ByteArray} {L : List ByteArray} {a k : Nat} (h : WdSt s L a k) (hk : k < s.size) (hc : s[k] ≠ 32) : WdSt s L a (k + 1) := by
  rcases h with ⟨_, h2, h3, h4, h5⟩ | ⟨h1, _⟩
  · refine .inl ⟨by omega, by omega, by omega, h4, ?_⟩
    have e : (s.data.toList.drop a).take (k + 1 - a) = (s.data.toList.drop a).take (k - a) ++ [s[k]] := by
      have hl : k - a < (s.data.toList.drop a).length := by simp; omega
      rw [show k + 1 - a = (k - a) + 1 by omega, List.take_succ_eq_append_getElem hl]
      congr 1
      simp only [List.getElem_drop, show a + (k - a) = k by omega]
      rfl
    rw [e]
    intro q
    rcases List.mem_append.1 q with q | q
    · exact h5 q
    · exact hc (List.mem_singleton.1 q).symm
  · omega
/-- what Words returns. -/
def RetWs (l : Wd) (w : World) (e : Ending) (w' : World) : Prop := ∃ A c, e = .returned (.slice A (wordsL l).length c) ∧ WdsAt w' w'.heap.size A (wordsL l) ∧ Below w.heap.size w w'
set_option maxRecDepth 100000 in
set_option maxHeartbeats 4000000 in
theorem words51_any (s : ByteArray) (hs : s.size ≤ 1000000000) (w : World) : Calls Tryz.prog 31 #[.string s] w (RetWs s.data.toList w) := by
  go_enter Tryz.func31, Tryz.ntmps31
  go_wp2_with fail
  go_loopw [3, 4, 5] (fun v av iv wr => ∃ (L : List ByteArray) (a k : Nat), WdSt s L a k ∧ iv = .int .i64 k ∧ av = .int .i64 a ∧ OwnV Value.string wr w.heap.size 9 v L ∧ Below w.heap.size w wr) (fun _ _ i _ => s.size + 1 - (intOf i).toNat)
  case atStart => exact ⟨[], 0, 0, .inl ⟨by omega, by omega, by simp, rfl, by simp⟩, rfl, rfl, OwnV.nil _ _ _, Below.refl _ _⟩
  case round =>
    obtain ⟨L, a, k, hat, rfl, rfl, hown, hb⟩ := hrel
    have hk1 : k ≤ s.size + 1 := by rcases hat with ⟨h, _⟩ | ⟨h, _⟩ <;> omega
    have hak : a ≤ k := by rcases hat with ⟨_, h, _⟩ | ⟨_, h, _⟩ <;> omega
    have hLk : L.length ≤ k := by rcases hat with ⟨_, _, h, _⟩ | ⟨_, _, h, _⟩ <;> omega
    have HAT := Lib.hid hat
    have HB := Lib.hid hb
    clear hat hb
    by_cases hend : k = s.size + 1
    · have hv : wordsL s.data.toList = L.map (·.data.toList) := by
        rcases HAT.out with ⟨h, _⟩ | ⟨_, _, _, h⟩
        · omega
        · exact h
      have hlt : ¬ (k : Int) ≤ (s.size : Int) := by omega
      obtain ⟨A, cp, rfl, hsl⟩ := hown.sl
      have HF : Hid (RetWs s.data.toList w (.returned (.slice A L.length cp)) wr) := Lib.hid (by
        have e1 : (wordsL s.data.toList).map wdV = L.map Value.string := by
          rw [hv, List.map_map]
          refine List.map_congr_left fun x _ => ?_
          show Value.string (bs x.data.toList) = _
          rw [bs_of']
        refine ⟨A, cp, by rw [hv, List.length_map], ?_, HB.out⟩
        unfold WdsAt
        rw [e1]
        exact hsl)
      clear hv hend hsl hown
      go_wp2_with fail
      go_ret
      exact HF.out
    · by_cases hlast : k = s.size
      · subst hlast
        have HN := Lib.hid (wds_end HAT.out)
        clear hend
        have hle : (s.size : Int) ≤ (s.size : Int) := by omega
        have hq : ((s.size : Int) == (s.size : Int)) = true := by simp
        go_wp2_with (at_builtin; refine wpList_append_one (f := Value.string) _ rfl _ _ 58 rfl w.heap.size 9 Tryz.underlying58 strC_info rfl (by omega) _ _ wr (s.extract a s.size) rfl rfl rfl hown rfl (by omega) HB.out.size ?_; intro v2 w2 hown2 hg)
        go_roundw
        case rel => exact ⟨L ++ [s.extract a s.size], s.size + 1, s.size + 1, HN.out, by go_num, by go_num, hown2, HB.out.grown hg HB.out.size hown.ge_base⟩
        case measure => simp [intOf]
      · have hks : k < s.size := by omega
        have hq : ((k : Int) == (s.size : Int)) = false := by simp; omega
        have hle : (k : Int) ≤ (s.size : Int) := by omega
        clear hend hlast
        by_cases hc : s[k] = 32
        · have HN := Lib.hid (wds_blank HAT.out hks hc)
          have e1 : ((s[k].toNat : Int) == 32) = true := by rw [hc]; decide
          clear hc
          go_wp2_with (at_builtin; refine wpList_append_one (f := Value.string) _ rfl _ _ 58 rfl w.heap.size 9 Tryz.underlying58 strC_info rfl (by omega) _ _ wr (s.extract a k) rfl rfl rfl hown rfl (by omega) HB.out.size ?_; intro v2 w2 hown2 hg)
          go_roundw
          case rel => exact ⟨L ++ [s.extract a k], k + 1, k + 1, HN.out, by go_num, by go_num, hown2, HB.out.grown hg HB.out.size hown.ge_base⟩
          case measure => simp [intOf]; omega
        · have HN := Lib.hid (wds_more HAT.out hks hc)
          have e1 : ((s[k].toNat : Int) == 32) = false := by
            rw [beq_eq_false_iff_ne]
            intro e
            apply hc
            apply UInt8.toNat_inj.1
            have : s[k].toNat = 32 := by omega
            exact this
          clear hc
          go_wp2_with fail
          go_roundw
          case rel => exact ⟨L, a, k + 1, HN.out, by go_num, rfl, hown, HB.out⟩
          case measure => simp [intOf]; omega
theorem spanR_at {ws : List Wd} {i k : Nat} (h : k < (spanR ws i).length) : (spanR ws i)[k]? = some (atR ws (i + 1 + k)) ∧ (k : Int) < atR ws i ∧ i + 1 + k < ws.length := by
  have hl : (spanR ws i).length = min (atR ws i).toNat (ws.length - (i + 1)) := by
    unfold spanR
    rw [List.length_map, List.length_take, List.length_drop]
  have h1 : k < (atR ws i).toNat := by omega
  have h2 : i + 1 + k < ws.length := by omega
  refine ⟨?_, by omega, h2⟩
  unfold spanR atR
  rw [List.getElem?_map, List.getElem?_take, List.getElem?_drop]
  rw [if_pos (by unfold atR at h1; exact h1), List.getElem?_eq_getElem h2]
  rfl
theorem spanR_end {ws : List Wd} {i : Nat} (h : ((spanR ws i).length : Int) < atR ws i) : ws.length ≤ i + 1 + (spanR ws i).length := by
  have hl : (spanR ws i).length = min (atR ws i).toNat (ws.length - (i + 1)) := by
    unfold spanR
    rw [List.length_map, List.length_take, List.length_drop]
  omega
set_option maxRecDepth 100000 in
set_option maxHeartbeats 4000000 in
theorem span51_any (ws : List Wd) (A : Option Addr) (c i : Nat) (w : World) (hat : WdsAt w w.heap.size A ws) (hl : ∀ x ∈ ws, x.length ≤ 1000000000) (hn : ws.length ≤ 1000000) (hi : i ≤ 1000000000) :
    Calls Tryz.prog 63 #[.slice A ws.length c, .int .i64 i] w fun e w' => ∃ B d, e = .returned (.slice B (spanR ws i).length d) ∧ OwnI w' w.heap.size 3 (.slice B (spanR ws i).length d) (spanR ws i) ∧ Below w.heap.size w w' := by
  have HA := Lib.hid (And.intro hat hl)
  have HAT := Lib.hid (fun (j : Nat) (X : World) (hb : Below w.heap.size w X) => at51_any ws A c j X w.heap.size (Sl.below hat hb) hl (by omega))
  have HLE := Lib.hid (spanR_len ws i)
  obtain ⟨n, hnn⟩ : ∃ n, n = atR ws i := ⟨_, rfl⟩
  obtain ⟨L, hL⟩ : ∃ L, L = spanR ws i := ⟨_, rfl⟩
  have HNN := Lib.hid hnn
  have HL := Lib.hid hL
  have H0 := Lib.hid (HAT.out i w (Below.refl _ _))
  rw [← hnn] at H0
  rw [← hL] at HLE ⊢
  obtain ⟨q, hq⟩ : ∃ q, q = ws.length := ⟨_, rfl⟩
  have HQ := Lib.hid hq
  rw [← hq] at H0 HAT HLE hn ⊢
  have w1 : IntKind.i64.wrap ((i : Int) + 1) = (i : Int) + 1 := IntWalk.i64_in _ (by omega)
  clear hat hl hnn hL hq
  go_enter Tryz.func63, Tryz.ntmps63
  go_wp2_with fail
  refine H0.out.mono ?_
  rintro e w0 ⟨rfl, rfl⟩
  clear H0
  go_wp2_with fail
  go_loopw [5, 7] (fun v kv X => ∃ k : Nat, k ≤ L.length ∧ kv = .int .i64 k ∧ OwnI X w0.heap.size 3 v (L.take k) ∧ Below w0.heap.size w0 X) (fun _ kv _ => L.length - (intOf kv).toNat)
  case atStart => exact ⟨0, Nat.zero_le _, rfl, nil_own _ _, Below.refl _ _⟩
  case round =>
    obtain ⟨k, hk, rfl, hown, hb⟩ := hrel
    have HO := Lib.hid (And.intro hown hb)
    have hLb : L.length ≤ 1000000 := by have := HLE.out; omega
    have w2 : IntKind.i64.wrap ((i : Int) + 1 + (k : Int)) = (i : Int) + 1 + (k : Int) := IntWalk.i64_in _ (by omega)
    clear hown hb
    by_cases hlt : k < L.length
    · obtain ⟨h1, h2, h3⟩ := spanR_at (ws := ws) (i := i) (k := k) (by rw [← HL.out]; exact hlt)
      rw [← HL.out] at h1
      rw [← HNN.out] at h2
      rw [← HQ.out] at h3
      have d1 : decide ((k : Int) < n) = true := decide_eq_true h2
      have d2 : decide ((i : Int) + 1 + (k : Int) < (q : Int)) = true := decide_eq_true (by omega)
      have HX := Lib.hid h1
      have HN := Lib.hid (HAT.out (i + 1 + k) wr HO.out.2)
      obtain ⟨x, hx⟩ : ∃ x, x = atR ws (i + 1 + k) := ⟨_, rfl⟩
      rw [← hx] at HX HN
      rw [show ((i + 1 + k : Nat) : Int) = (i : Int) + 1 + (k : Int) by omega] at HN
      have hov := HO.out.1
      have hsz := HO.out.2.size
      have HT := Lib.hid (show (L.take k).length + 1 ≤ 4398046511104 by rw [List.length_take]; omega)
      have HG := Lib.hid (fun w2 (hg : World.grownBy wr w2 _) => HO.out.2.grown hg hsz hov.ge_base)
      clear h1 h2 h3 hx
      go_wp2_with fail
      refine HN.out.mono ?_
      rintro e w2 ⟨rfl, rfl⟩
      go_wp2_with (at_builtin; refine wpList_append_int _ rfl _ _ 31 rfl w0.heap.size 3 Tryz.underlying31 int_info _ (L.take k) w2 x rfl rfl hov rfl HT.out hsz ?_; intro v4 w4 hown4 hg4)
      go_roundw
      case rel => exact ⟨k + 1, by omega, by go_num, by rw [take_snoc HX.out]; exact hown4, HG.out _ hg4⟩
      case measure => simp [intOf]; omega
    · obtain rfl : k = L.length := by omega
      have hov := HO.out.1
      rw [List.take_length] at hov
      obtain ⟨B, d, rfl, _⟩ := OwnV.sl hov
      have HV := Lib.hid hov
      clear hov hlt hk
      by_cases h1 : (L.length : Int) < n
      · have h2 := spanR_end (ws := ws) (i := i) (by rw [← HL.out, ← HNN.out]; exact h1)
        rw [← HL.out, ← HQ.out] at h2
        have d1 : decide ((L.length : Int) < n) = true := decide_eq_true h1
        have d2 : decide ((i : Int) + 1 + (L.length : Int) < (q : Int)) = false := decide_eq_false (by omega)
        clear h1 h2
        go_wp2_with fail
        go_ret
        exact ⟨B, d, rfl, HV.out, HO.out.2⟩
      · have d1 : decide ((L.length : Int) < n) = false := decide_eq_false h1
        clear h1
        go_wp2_with fail
        go_ret
        exact ⟨B, d, rfl, HV.out, HO.out.2⟩
end Go.Proofs.YtakdkiggaalimaaGreatDoor
