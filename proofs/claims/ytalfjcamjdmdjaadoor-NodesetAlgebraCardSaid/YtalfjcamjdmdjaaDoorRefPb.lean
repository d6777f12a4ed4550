/-
  samaritanref02.Parse: what it returns, for every text of at most 60 bytes.
-/
import Derived.Test.YtalfjcamjdmdjaaDoorRefPa
import Derived.Test.YtalfjcamjdmdjaaDoorRefV
namespace Go.Proofs.YtalfjcamjdmdjaaDoor
open Go.RowKit

theorem drop_text (s : ByteArray) (a : Nat) : (s.extract a s.size).data.toList = s.data.toList.drop a := by
  rw [ByteArray.data_extract, Array.toList_extract, List.extract_eq_take_drop]
  exact List.take_of_length_le (by simp)
/-- what Parse returns. -/
def RetRP (l : List UInt8) (w : World) (e : Ending) (w' : World) : Prop := Below w.heap.size w w' ∧
  ((l ≠ [] ∧ (∀ R, ¬ Reads l R) ∧ ∃ v, e = .returned (.tuple #[v, .bool false])) ∨
   (∃ v L, e = .returned (.tuple #[v, .bool true]) ∧ OwnI w' w.heap.size 3 v L ∧ ((l = [] ∧ L = []) ∨ ∃ R, Reads l R ∧ L = nodesI (runsW R))))
theorem range_take {n last j : Nat} (h : j < last + 1 - n) : (rangeI n last).take (j + 1) = (rangeI n last).take j ++ [((n + j : Nat) : Int)] := by
  have hl : j < (rangeI n last).length := by unfold rangeI; rw [List.length_map, List.length_range']; exact h
  rw [List.take_succ_eq_append_getElem hl]
  congr 2
  simp [rangeI, List.getElem_range']
theorem range_all {n last j : Nat} (h : last + 1 - n ≤ j) : (rangeI n last).take j = rangeI n last := List.take_of_length_le (by unfold rangeI; rw [List.length_map, List.length_range']; exact h)
theorem head_at {l : List UInt8} {a : Nat} {c : UInt8} (h : l[a]? = some c) : (l.drop a).head? = some c := by
  rw [List.head?_drop]; exact h
theorem head_none {l : List UInt8} {a : Nat} (h : l.length ≤ a) : (l.drop a).head? = none := by rw [List.drop_eq_nil_of_le h]; rfl
set_option maxRecDepth 100000 in
set_option maxHeartbeats 8000000 in
theorem refParse_any (s : ByteArray) (hs : s.size ≤ 60) (w : World) : Calls Tryd.prog 20 #[.string s] w (RetRP s.data.toList w) := by
  have HSZ := Lib.hid (show s.data.toList.length = s.size by simp)
  go_enter Tryd.func20, Tryd.ntmps20
  go_wp2_with fail
  go_loopw [4, 5] (fun ov av X => ∃ (at0 : Nat) (out : List Int), at0 ≤ s.size ∧ av = .int .i64 at0 ∧ PaS s.data.toList at0 out ∧ OwnI X w.heap.size 3 ov out ∧ Below w.heap.size w X) (fun _ a _ => s.size - (intOf a).toNat)
  case atStart => exact ⟨0, [], by omega, rfl, PaS.start _, OwnV.nil _ _ _, Below.refl _ _⟩
  case round =>
    obtain ⟨at0, out, hle, rfl, hp, hown, hb⟩ := hrel
    have HP := Lib.hid (And.intro hp (And.intro hown hb))
    clear hp hown hb
    by_cases hlt : at0 < s.size
    · have hlt' : (at0 : Int) < (s.size : Int) := by omega
      have hltl : at0 < s.data.toList.length := by rw [HSZ.out]; exact hlt
      have HLT := Lib.hid hltl
      clear hltl
      go_wp2_with fail
      refine (number_any (s.extract at0 s.size) (by rw [ByteArray.size_extract]; omega) _).mono ?_
      rintro e w2 ⟨k1, hk1, rfl, hb2⟩
      rw [drop_text] at hk1 ⊢
      have hk14 := hk1.four
      have hk1l : at0 + k1 ≤ s.size := by have := hk1.le; rw [List.length_drop, HSZ.out] at this; omega
      have hn := lead_val hk14 hk1.dig
      obtain ⟨n, hnn⟩ : ∃ n, n = valFrom 0 ((s.data.toList.drop at0).take k1) := ⟨_, rfl⟩
      rw [← hnn] at hn ⊢
      have HN := Lib.hid (And.intro hk1 hnn)
      have H2 := Lib.hid (And.intro (HP.out.2.2.trans (hb2.mono HP.out.2.2.size)) (HP.out.2.1.kept_new hb2))
      clear hk1 hnn hb2
      have HPASTART := trivial
      clear HPASTART
      by_cases hk10 : k1 = 0
      · subst hk10
        have HPA := Lib.hid (show PaStep s.data.toList at0 n n 0 (at0 + 0) from ⟨0, HN.out.1, HN.out.2, .inr ⟨fun h => absurd h.1 (Nat.lt_irrefl _), rfl, rfl, rfl⟩⟩)
        go_wp2_with fail
        go_ret2
        exact ⟨H2.out.1, .inl ⟨fun e => by have := HLT.out; rw [e] at this; simp at this, HP.out.1.reject HLT.out HPA.out (by omega), _, rfl⟩⟩
      · have hk1p : 0 < k1 := by omega
        have hk1i : (0 : Int) < (k1 : Int) := by omega
        have hk1z : ((k1 : Int) == 0) = false := beq_eq_false_iff_ne.2 (by omega)
        by_cases hin : at0 + k1 < s.size
        · have hin' : (at0 : Int) + (k1 : Int) < (s.size : Int) := by omega
          have HCH := Lib.hid (show s.data.toList[at0 + k1]? = some s[at0 + k1] by rw [List.getElem?_eq_getElem (by rw [HSZ.out]; exact hin)]; rfl)
          by_cases h45 : s[at0 + k1] = 45
          · have h45i : ((s[at0 + k1].toNat : Int) == 45) = true := by rw [h45]; rfl
            go_wp2_with fail
            refine (number_any (s.extract (at0 + k1 + 1) s.size) (by rw [ByteArray.size_extract]; omega) _).mono ?_
            rintro e w3 ⟨k2, hk2, rfl, hb3⟩
            rw [drop_text] at hk2 ⊢
            have hk24 := hk2.four
            have hk2l : at0 + k1 + 1 + k2 ≤ s.size := by have := hk2.le; rw [List.length_drop, HSZ.out] at this; omega
            have hm := lead_val hk24 hk2.dig
            obtain ⟨m, hmm⟩ : ∃ m, m = valFrom 0 ((s.data.toList.drop (at0 + k1 + 1)).take k2) := ⟨_, rfl⟩
            rw [← hmm] at hm ⊢
            have HPA := Lib.hid (show PaStep s.data.toList at0 n m k2 (at0 + k1 + 1 + k2) from ⟨k1, HN.out.1, HN.out.2, .inl ⟨head_at (by rw [HCH.out, h45]), hk1p, hk2, hmm, rfl⟩⟩)
            have H3 := Lib.hid (And.intro (H2.out.1.trans (hb3.mono H2.out.1.size)) (H2.out.2.kept_new hb3))
            clear hk2 hmm hb3
            by_cases hk0 : k2 = 0
            · have hk0' : ((k2 : Int) == 0) = true := beq_iff_eq.2 (by omega)
              go_wp2_with fail
              go_ret2
              exact ⟨H3.out.1, .inl ⟨fun e => by have := HLT.out; rw [e] at this; simp at this, HP.out.1.reject HLT.out HPA.out (by omega), _, rfl⟩⟩
            · have hk0' : ((k2 : Int) == 0) = false := beq_eq_false_iff_ne.2 (by omega)
              by_cases hn4 : 4096 ≤ n
              · have hn4' : (4096 : Int) ≤ (n : Int) := by omega
                go_wp2_with fail
                go_ret2
                exact ⟨H3.out.1, .inl ⟨fun e => by have := HLT.out; rw [e] at this; simp at this, HP.out.1.reject HLT.out HPA.out (by omega), _, rfl⟩⟩
              · have hn4' : ¬ (4096 : Int) ≤ (n : Int) := by omega
                by_cases hl4 : 4096 ≤ m
                · have hl4' : (4096 : Int) ≤ (m : Int) := by omega
                  go_wp2_with fail
                  go_ret2
                  exact ⟨H3.out.1, .inl ⟨fun e => by have := HLT.out; rw [e] at this; simp at this, HP.out.1.reject HLT.out HPA.out (by omega), _, rfl⟩⟩
                · have hl4' : ¬ (4096 : Int) ≤ (m : Int) := by omega
                  obtain ⟨c, hc⟩ : ∃ c, c = m + 1 - n := ⟨_, rfl⟩
                  have HC := Lib.hid hc
                  have hcl : c ≤ 4096 := by omega
                  have hol : out.length ≤ 245760 := by have := HP.out.1.len; omega
                  have HNX := Lib.hid (HP.out.1.next HLT.out HPA.out (by omega) (by omega))
                  have hat1 := (pa_le HPA.out (by omega) HLT.out)
                  have HAT := Lib.hid hat1
                  clear hat1
                  go_wp2_with fail
                  go_loopw [4, 9] (fun ov iv X => ∃ j : Nat, j ≤ c ∧ iv = .int .i64 ((n + j : Nat) : Int) ∧ OwnI X w.heap.size 3 ov (out ++ (rangeI n m).take j) ∧ Below w.heap.size w X) (fun _ i _ => n + c - (intOf i).toNat)
                  case atStart => exact ⟨0, Nat.zero_le _, rfl, by rw [List.take_zero, List.append_nil]; exact H3.out.2, H3.out.1⟩
                  case round =>
                    obtain ⟨j, hj, rfl, hown, hb⟩ := hrel
                    have HJ := Lib.hid (And.intro hown hb)
                    have hbz := hb.size
                    have hll : (out ++ (rangeI n m).take j).length ≤ 999999 := by rw [List.length_append, List.length_take]; omega
                    clear hown hb
                    by_cases hjc : j < c
                    · have hjc' : ((n + j : Nat) : Int) ≤ (m : Int) := by omega
                      go_wp2_with (at_builtin; refine wpList_append_int _ rfl _ _ 22 rfl w.heap.size 3 Tryd.underlying22 int_infoA _ (out ++ (rangeI n m).take j) _ ((n + j : Nat) : Int) rfl rfl HJ.out.1 rfl (by omega) hbz ?_; intro v' w' hown' hgrow')
                      go_roundw
                      case rel =>
                        refine ⟨j + 1, by omega, by go_num, ?_, HJ.out.2.grown hgrow' HJ.out.2.size (fun j e => HJ.out.1.ge_base j e)⟩
                        rw [range_take (by rw [← HC.out]; exact hjc), ← List.append_assoc]
                        exact hown'
                      case measure => first | (simp [intOf]; done) | (simp [intOf]; omega)
                    · have hjc' : ¬ ((n + j : Nat) : Int) ≤ (m : Int) := by omega
                      have HE := Lib.hid (show (rangeI n m).take j = rangeI n m from range_all (by rw [← HC.out]; omega))
                      by_cases hend : (at0 + k1 + 1 + k2) < s.size
                      · have hend' : (((at0 + k1 + 1 + k2) : Nat) : Int) < (s.size : Int) := by omega
                        go_wp2_with fail
                        go_roundw
                        case rel =>
                          refine ⟨(at0 + k1 + 1 + k2) + 1, _, by omega, by go_num, ?_, HJ.out.1, HJ.out.2⟩
                          have := HNX.out
                          rw [if_pos (by rw [HSZ.out]; exact hend)] at this
                          rwa [HE.out]
                        case measure => have := HAT.out.2; first | (simp [intOf]; done) | (simp [intOf]; omega)
                      · have hend' : ¬ (((at0 + k1 + 1 + k2) : Nat) : Int) < (s.size : Int) := by omega
                        go_wp2_with fail
                        go_roundw
                        case rel =>
                          refine ⟨(at0 + k1 + 1 + k2), _, by have := HAT.out.1; rw [HSZ.out] at this; exact this, by go_num, ?_, HJ.out.1, HJ.out.2⟩
                          have := HNX.out
                          rw [if_neg (by rw [HSZ.out]; exact hend)] at this
                          rwa [HE.out]
                        case measure => have := HAT.out.2; first | (simp [intOf]; done) | (simp [intOf]; omega)
          · have h45i : ((s[at0 + k1].toNat : Int) == 45) = false := beq_eq_false_iff_ne.2 (fun e => h45 (UInt8.toNat_inj.1 (by have : (45 : UInt8).toNat = 45 := rfl; omega)))
            have HPA := Lib.hid (show PaStep s.data.toList at0 n n k1 (at0 + k1) from ⟨k1, HN.out.1, HN.out.2, .inr ⟨fun h => (by rw [head_at HCH.out] at h; exact h45 (Option.some.inj h.2)), rfl, rfl, rfl⟩⟩)
            by_cases hn4 : 4096 ≤ n
            · have hn4' : (4096 : Int) ≤ (n : Int) := by omega
              go_wp2_with fail
              go_ret2
              exact ⟨H2.out.1, .inl ⟨fun e => by have := HLT.out; rw [e] at this; simp at this, HP.out.1.reject HLT.out HPA.out (by omega), _, rfl⟩⟩
            · have hn4' : ¬ (4096 : Int) ≤ (n : Int) := by omega
              obtain ⟨c, hc⟩ : ∃ c, c = n + 1 - n := ⟨_, rfl⟩
              have HC := Lib.hid hc
              have hcl : c ≤ 4096 := by omega
              have hol : out.length ≤ 245760 := by have := HP.out.1.len; omega
              have HNX := Lib.hid (HP.out.1.next HLT.out HPA.out (by omega) (by omega))
              have hat1 := (pa_le HPA.out (by omega) HLT.out)
              have HAT := Lib.hid hat1
              clear hat1
              go_wp2_with fail
              go_loopw [4, 9] (fun ov iv X => ∃ j : Nat, j ≤ c ∧ iv = .int .i64 ((n + j : Nat) : Int) ∧ OwnI X w.heap.size 3 ov (out ++ (rangeI n n).take j) ∧ Below w.heap.size w X) (fun _ i _ => n + c - (intOf i).toNat)
              case atStart => exact ⟨0, Nat.zero_le _, rfl, by rw [List.take_zero, List.append_nil]; exact H2.out.2, H2.out.1⟩
              case round =>
                obtain ⟨j, hj, rfl, hown, hb⟩ := hrel
                have HJ := Lib.hid (And.intro hown hb)
                have hbz := hb.size
                have hll : (out ++ (rangeI n n).take j).length ≤ 999999 := by rw [List.length_append, List.length_take]; omega
                clear hown hb
                by_cases hjc : j < c
                · have hjc' : ((n + j : Nat) : Int) ≤ (n : Int) := by omega
                  go_wp2_with (at_builtin; refine wpList_append_int _ rfl _ _ 22 rfl w.heap.size 3 Tryd.underlying22 int_infoA _ (out ++ (rangeI n n).take j) _ ((n + j : Nat) : Int) rfl rfl HJ.out.1 rfl (by omega) hbz ?_; intro v' w' hown' hgrow')
                  go_roundw
                  case rel =>
                    refine ⟨j + 1, by omega, by go_num, ?_, HJ.out.2.grown hgrow' HJ.out.2.size (fun j e => HJ.out.1.ge_base j e)⟩
                    rw [range_take (by rw [← HC.out]; exact hjc), ← List.append_assoc]
                    exact hown'
                  case measure => first | (simp [intOf]; done) | (simp [intOf]; omega)
                · have hjc' : ¬ ((n + j : Nat) : Int) ≤ (n : Int) := by omega
                  have HE := Lib.hid (show (rangeI n n).take j = rangeI n n from range_all (by rw [← HC.out]; omega))
                  have hend : (at0 + k1) < s.size := by omega
                  have hend' : (((at0 + k1) : Nat) : Int) < (s.size : Int) := by omega
                  go_wp2_with fail
                  go_roundw
                  case rel =>
                    refine ⟨(at0 + k1) + 1, _, by omega, by go_num, ?_, HJ.out.1, HJ.out.2⟩
                    have := HNX.out
                    rw [if_pos (by rw [HSZ.out]; exact hend)] at this
                    rwa [HE.out]
                  case measure => have := HAT.out.2; first | (simp [intOf]; done) | (simp [intOf]; omega)
        · have hin' : ¬ (at0 : Int) + (k1 : Int) < (s.size : Int) := by omega
          have HPA := Lib.hid (show PaStep s.data.toList at0 n n k1 (at0 + k1) from ⟨k1, HN.out.1, HN.out.2, .inr ⟨fun h => (by rw [head_none (by rw [HSZ.out]; omega)] at h; cases h.2), rfl, rfl, rfl⟩⟩)
          by_cases hn4 : 4096 ≤ n
          · have hn4' : (4096 : Int) ≤ (n : Int) := by omega
            go_wp2_with fail
            go_ret2
            exact ⟨H2.out.1, .inl ⟨fun e => by have := HLT.out; rw [e] at this; simp at this, HP.out.1.reject HLT.out HPA.out (by omega), _, rfl⟩⟩
          · have hn4' : ¬ (4096 : Int) ≤ (n : Int) := by omega
            obtain ⟨c, hc⟩ : ∃ c, c = n + 1 - n := ⟨_, rfl⟩
            have HC := Lib.hid hc
            have hcl : c ≤ 4096 := by omega
            have hol : out.length ≤ 245760 := by have := HP.out.1.len; omega
            have HNX := Lib.hid (HP.out.1.next HLT.out HPA.out (by omega) (by omega))
            have hat1 := (pa_le HPA.out (by omega) HLT.out)
            have HAT := Lib.hid hat1
            clear hat1
            go_wp2_with fail
            go_loopw [4, 9] (fun ov iv X => ∃ j : Nat, j ≤ c ∧ iv = .int .i64 ((n + j : Nat) : Int) ∧ OwnI X w.heap.size 3 ov (out ++ (rangeI n n).take j) ∧ Below w.heap.size w X) (fun _ i _ => n + c - (intOf i).toNat)
            case atStart => exact ⟨0, Nat.zero_le _, rfl, by rw [List.take_zero, List.append_nil]; exact H2.out.2, H2.out.1⟩
            case round =>
              obtain ⟨j, hj, rfl, hown, hb⟩ := hrel
              have HJ := Lib.hid (And.intro hown hb)
              have hbz := hb.size
              have hll : (out ++ (rangeI n n).take j).length ≤ 999999 := by rw [List.length_append, List.length_take]; omega
              clear hown hb
              by_cases hjc : j < c
              · have hjc' : ((n + j : Nat) : Int) ≤ (n : Int) := by omega
                go_wp2_with (at_builtin; refine wpList_append_int _ rfl _ _ 22 rfl w.heap.size 3 Tryd.underlying22 int_infoA _ (out ++ (rangeI n n).take j) _ ((n + j : Nat) : Int) rfl rfl HJ.out.1 rfl (by omega) hbz ?_; intro v' w' hown' hgrow')
                go_roundw
                case rel =>
                  refine ⟨j + 1, by omega, by go_num, ?_, HJ.out.2.grown hgrow' HJ.out.2.size (fun j e => HJ.out.1.ge_base j e)⟩
                  rw [range_take (by rw [← HC.out]; exact hjc), ← List.append_assoc]
                  exact hown'
                case measure => first | (simp [intOf]; done) | (simp [intOf]; omega)
              · have hjc' : ¬ ((n + j : Nat) : Int) ≤ (n : Int) := by omega
                have HE := Lib.hid (show (rangeI n n).take j = rangeI n n from range_all (by rw [← HC.out]; omega))
                have hend : ¬ (at0 + k1) < s.size := by omega
                have hend' : ¬ (((at0 + k1) : Nat) : Int) < (s.size : Int) := by omega
                go_wp2_with fail
                go_roundw
                case rel =>
                  refine ⟨(at0 + k1), _, by have := HAT.out.1; rw [HSZ.out] at this; exact this, by go_num, ?_, HJ.out.1, HJ.out.2⟩
                  have := HNX.out
                  rw [if_neg (by rw [HSZ.out]; exact hend)] at this
                  rwa [HE.out]
                case measure => have := HAT.out.2; first | (simp [intOf]; done) | (simp [intOf]; omega)
    · have hee : at0 = s.size := by omega
      have hlt' : ¬ (at0 : Int) < (s.size : Int) := by omega
      obtain ⟨A, c, rfl, hsl⟩ := HP.out.2.1.sl
      have hol : out.length ≤ 245760 := by have := HP.out.1.len; omega
      have HSL := Lib.hid hsl
      have hbz := HP.out.2.2.size
      have HOF := Lib.hid (refOf_any A c out wr hsl (by omega))
      clear hsl
      go_wp2_with fail
      refine HOF.out.mono ?_
      rintro e w2 ⟨v, rfl, hown2, hb2⟩
      rw [refOf_nodes] at hown2
      obtain ⟨A2, c2, rfl, hsl2⟩ := hown2.sl
      have h4 : ∀ n ∈ nodesW (ofW out), n < 4096 := fun n hn => (mem_of.1 hn).1
      have hpl : (nodesW (ofW out)).length ≤ 4096 := by rw [nodes_len]; have := popW_le (ofW out); rw [(wds_of out).len] at this; exact this
      have htx := refText_any A2 c2 (nodesW (ofW out)) (nodes_up _) h4 hpl w2 hsl2
      have hll : (nodesI (ofW out)).length = (nodesW (ofW out)).length := by unfold nodesI; rw [List.length_map]
      rw [← hll] at htx
      have HTX := Lib.hid htx
      have H2 := Lib.hid (And.intro (HP.out.2.2.trans (hb2.mono hbz)) (hown2.base_le hbz))
      have HLL := Lib.hid hll
      rw [← hll] at hpl
      clear hb2 hown2 hsl2 htx h4 hll
      go_wp2_with fail
      refine HTX.out.mono ?_
      rintro e w3 ⟨rfl, hb3⟩
      have H3 := Lib.hid (And.intro (H2.out.1.trans (hb3.mono H2.out.1.size)) (H2.out.2.kept_new hb3))
      clear hb3
      have hfin := HP.out.1.fin (by rw [HSZ.out]; exact hee)
      by_cases ht : textL (nodesW (ofW out)) = s.data.toList
      · have hq : ((bs (textL (nodesW (ofW out)))).toList == s.toList) = true := by rw [ByteArray.toList_eq, ByteArray.toList_eq, bs_data]; exact beq_iff_eq.2 ht
        have HF := Lib.hid (hfin.1 ht)
        clear hfin ht
        go_wp2_with fail
        go_ret2
        refine ⟨H3.out.1, .inr ⟨_, nodesI (ofW out), rfl, H3.out.2, ?_⟩⟩
        rw [← refOf_nodes]
        exact HF.out
      · have hq : ((bs (textL (nodesW (ofW out)))).toList == s.toList) = false := by rw [ByteArray.toList_eq, ByteArray.toList_eq, bs_data]; exact beq_eq_false_iff_ne.2 ht
        have HF := Lib.hid (hfin.2 ht)
        clear hfin ht
        go_wp2_with fail
        go_ret2
        exact ⟨H3.out.1, .inl ⟨HF.out.1, HF.out.2, _, rfl⟩⟩
end Go.Proofs.YtalfjcamjdmdjaaDoor
