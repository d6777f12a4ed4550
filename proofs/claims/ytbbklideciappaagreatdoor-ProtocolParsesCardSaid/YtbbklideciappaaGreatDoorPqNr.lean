/-
  samaritanref12: number, parted.
-/
import Derived.Test.YtbbklideciappaaGreatDoorPqTx
namespace Go.Proofs.YtbbklideciappaaGreatDoor
open Go.RowKit Go.Maps

/-- z is the number that the text l is, or -1. -/
def RefN (l : List UInt8) (most : Nat) (z : Int) : Prop := (∃ n : Nat, n ≤ most ∧ Lib.decDigits n = l ∧ z = n) ∨ ((∀ n : Nat, n ≤ most → Lib.decDigits n ≠ l) ∧ z = -1)
def RetRn (l : List UInt8) (most : Nat) (w : World) (e : Ending) (w' : World) : Prop := (∃ z, RefN l most z ∧ e = .returned (.int .i64 z)) ∧ ∃ n, w' = w.drewN n
theorem val_next {l : List UInt8} {k : Nat} {c : UInt8} (h : l[k]? = some c) : valFrom 0 (l.take (k + 1)) = valFrom 0 (l.take k) * 10 + (c.toNat - 48) := by
  rw [take_snoc' h, valFrom_append, valFrom_one]
theorem val_le (l : List UInt8) (k : Nat) : valFrom 0 (l.take k) ≤ valFrom 0 l := by
  conv => rhs; rw [← List.take_append_drop k l, valFrom_append]
  exact valFrom_ge _ _
theorem refn_no {l : List UInt8} {most : Nat} (h : ∀ n : Nat, n ≤ most → Lib.decDigits n ≠ l) : RefN l most (-1) := .inr ⟨h, rfl⟩
set_option maxRecDepth 100000 in
set_option maxHeartbeats 4000000 in
theorem refNumber_any (s : ByteArray) (hs : s.size ≤ 9223372036854775807) (most : Nat) (hm : most ≤ 1048576) (w : World) : Calls Tryz.prog 54 #[.string s, .int .i64 most] w (RetRn s.data.toList most w) := by
  go_enter Tryz.func54, Tryz.ntmps54
  go_wp2_with fail
  go_loopw [6, 5] (fun i v X => ∃ k n : Nat, k ≤ s.size ∧ i = .int .i64 k ∧ v = .int .i64 n ∧ n = valFrom 0 (s.data.toList.take k) ∧ n ≤ 10 * most + 9 ∧ (∀ c ∈ s.data.toList.take k, isDig c) ∧ X = w) (fun i _ _ => s.size - (intOf i).toNat)
  case atStart => exact ⟨0, 0, by omega, rfl, rfl, rfl, by omega, by simp, rfl⟩
  case round =>
    obtain ⟨k, n, hk, rfl, rfl, hn, hnm, hd, rfl⟩ := hrel
    have HI := Lib.hid (And.intro hn hd)
    clear hn hd
    by_cases hlt : k < s.size
    · have HC := Lib.hid (byte_at hlt)
      have hlt' : (k : Int) < (s.size : Int) := by omega
      obtain ⟨c, hcc⟩ : ∃ c, c = s[k] := ⟨_, rfl⟩
      have hcl := UInt8.toNat_lt c
      rw [← hcc] at HC
      have hmem : Hid (c ∈ s.data.toList) := Lib.hid (List.mem_of_getElem? HC.out)
      by_cases hc1 : 48 ≤ c.toNat
      · have hc1' : decide ((s[k].toNat : Int) < 48) = false := decide_eq_false (by rw [← hcc]; omega)
        by_cases hc2 : c.toNat ≤ 57
        · have hc2' : decide (57 < (s[k].toNat : Int)) = false := decide_eq_false (by rw [← hcc]; omega)
          by_cases hn : n ≤ most
          · have hn' : decide (most < n) = false := decide_eq_false (by omega)
            have HN := Lib.hid (val_next HC.out)
            have HD := Lib.hid (show ∀ c ∈ s.data.toList.take (k + 1), isDig c from (all_take_iff HC.out).2 ⟨HI.out.2, hc1, hc2⟩)
            have w1 : IntKind.i64.wrap ((n : Int) * 10) = ((n * 10 : Nat) : Int) := by rw [IntWalk.i64_in _ (by omega)]; omega
            have w2 : IntKind.u8.wrap ((s[k].toNat : Int) - 48) = ((c.toNat - 48 : Nat) : Int) := by rw [← hcc, IntKind.wrap_u8]; omega
            have w3 : IntKind.i64.wrap ((c.toNat - 48 : Nat) : Int) = ((c.toNat - 48 : Nat) : Int) := IntWalk.i64_in _ (by omega)
            have w4 : IntKind.i64.wrap (((n * 10 : Nat) : Int) + ((c.toNat - 48 : Nat) : Int)) = ((n * 10 + (c.toNat - 48) : Nat) : Int) := by rw [IntWalk.i64_in _ (by omega)]; omega
            have hb : n * 10 + (c.toNat - 48) ≤ 10 * most + 9 := by omega
            obtain ⟨d, hdd⟩ : ∃ d, d = c.toNat - 48 := ⟨_, rfl⟩
            rw [← hdd] at w2 w3 w4 hb HN
            obtain ⟨n10, hn10⟩ : ∃ d, d = n * 10 := ⟨_, rfl⟩
            rw [← hn10] at w1 w4 hb
            have HQ := Lib.hid hn10
            clear hc1 hc2 hn hcc hdd hn10
            go_wp2_with fail
            go_roundw
            case rel => exact ⟨k + 1, n10 + d, by omega, by go_num, rfl, by rw [HN.out, HQ.out, HI.out.1], hb, HD.out, by first | rfl | trivial⟩
            case measure => simp [intOf]; omega
          · have hn' : decide (most < n) = true := decide_eq_true (by omega)
            have HN := Lib.hid (show RefN s.data.toList most (-1) from refn_no (fun m hm' e => by
              have h1 := val_le s.data.toList k
              rw [← HI.out.1, ← e, val_dec] at h1
              omega))
            clear hc1 hc2 hn hcc
            go_wp2_with fail
            go_ret
            exact ⟨⟨_, HN.out, rfl⟩, 0, rfl⟩
        · have hc2' : decide (57 < (s[k].toNat : Int)) = true := decide_eq_true (by rw [← hcc]; omega)
          have HN := Lib.hid (show RefN s.data.toList most (-1) from refn_no (fun m hm' e => hc2 (dec_dig m c (by rw [e]; exact hmem.out)).2))
          clear hc1 hc2 hcc
          go_wp2_with fail
          go_ret
          exact ⟨⟨_, HN.out, rfl⟩, 0, rfl⟩
      · have hc1' : decide ((s[k].toNat : Int) < 48) = true := decide_eq_true (by rw [← hcc]; omega)
        have HN := Lib.hid (show RefN s.data.toList most (-1) from refn_no (fun m hm' e => hc1 (dec_dig m c (by rw [e]; exact hmem.out)).1))
        clear hc1 hcc
        go_wp2_with fail
        go_ret
        exact ⟨⟨_, HN.out, rfl⟩, 0, rfl⟩
    · obtain rfl : k = s.size := by omega
      have HV : Hid (n = valFrom 0 s.data.toList) := Lib.hid (by
        have := HI.out.1
        rwa [List.take_of_length_le (by simp)] at this)
      clear HI hlt hk
      by_cases h0 : s.size = 0
      · have d0 : ((s.size : Int) == 0) = true := by simp [h0]
        have HN := Lib.hid (show RefN s.data.toList most (-1) from refn_no (fun m hm' e => dec_ne m (by rw [e]; exact List.eq_nil_of_length_eq_zero (by simpa using h0))))
        clear h0
        go_wp2_with fail
        go_ret
        exact ⟨⟨_, HN.out, rfl⟩, 0, rfl⟩
      · have d0 : ((s.size : Int) == 0) = false := beq_eq_false_iff_ne.2 (by omega)
        have HC := Lib.hid (num_any n (by omega) (by omega) wr)
        clear h0
        have hz0 : dec (n : Int) = Lib.decDigits n := rfl
        rw [hz0] at HC
        by_cases he : Lib.decDigits n = s.data.toList
        · have e1 := str_eq (show bs (Lib.decDigits n) = s by rw [he]; exact (bs_of s).symm)
          have e2 : ((bs (Lib.decDigits n)).toList != s.toList) = false := by unfold bne; rw [e1]; rfl
          by_cases hn : n ≤ most
          · have hn' : decide (most < n) = false := decide_eq_false (by omega)
            have HN := Lib.hid (show RefN s.data.toList most n from .inl ⟨n, hn, he, rfl⟩)
            clear he hn
            go_wp2_with fail
            refine HC.out.mono ?_
            rintro e w' ⟨rfl, nd, rfl⟩
            go_wp2_with fail
            go_ret
            exact ⟨⟨_, HN.out, rfl⟩, nd, rfl⟩
          · have hn' : decide (most < n) = true := decide_eq_true (by omega)
            have HN := Lib.hid (show RefN s.data.toList most (-1) from refn_no (fun m hm' e => by
              have := dec_inj (e.trans he.symm)
              omega))
            clear he hn
            go_wp2_with fail
            refine HC.out.mono ?_
            rintro e w' ⟨rfl, nd, rfl⟩
            go_wp2_with fail
            go_ret
            exact ⟨⟨_, HN.out, rfl⟩, nd, rfl⟩
        · have e1 := str_ne (show bs (Lib.decDigits n) ≠ s from fun h => he (by rw [← h, bs_data]))
          have e2 : ((bs (Lib.decDigits n)).toList != s.toList) = true := by unfold bne; rw [e1]; rfl
          have HN := Lib.hid (show RefN s.data.toList most (-1) from refn_no (fun m hm' e => he (by
            have h1 := HV.out
            rw [← e, val_dec] at h1
            rw [h1, e])))
          clear he
          go_wp2_with fail
          refine HC.out.mono ?_
          rintro e w' ⟨rfl, nd, rfl⟩
          go_wp2_with fail
          go_ret
          exact ⟨⟨_, HN.out, rfl⟩, nd, rfl⟩
/-- the text l cut at its first space. -/
def PartR (s : ByteArray) (e : Ending) : Prop := (∃ p r, (32 : UInt8) ∉ p ∧ s.data.toList = p ++ 32 :: r ∧ e = .returned (.tuple #[.string (bs p), .string (bs r), .bool true])) ∨ ((32 : UInt8) ∉ s.data.toList ∧ e = .returned (.tuple #[.string s, .string ⟨#[]⟩, .bool false]))
theorem part_at {s : ByteArray} {k : Nat} (hk : s.data.toList[k]? = some 32) (hn : ∀ c ∈ s.data.toList.take k, c ≠ 32) : PartR s (.returned (.tuple #[.string (s.extract 0 k), .string (s.extract (k + 1) s.size), .bool true])) := by
  refine .inl ⟨s.data.toList.take k, s.data.toList.drop (k + 1), fun h => hn _ h rfl, ?_, ?_⟩
  · obtain ⟨h1, h2⟩ := List.getElem?_eq_some_iff.1 hk
    conv => lhs; rw [← List.take_append_drop k s.data.toList, List.drop_eq_getElem_cons h1, h2]
  · rw [bs_of (s.extract 0 k), bs_of (s.extract (k + 1) s.size), take_ext, drop_ext]
set_option maxRecDepth 100000 in
set_option maxHeartbeats 4000000 in
theorem parted_any (s : ByteArray) (hs : s.size ≤ 9223372036854775806) (w : World) : Calls Tryz.prog 53 #[.string s] w fun e w' => PartR s e ∧ ∃ n, w' = w.drewN n := by
  go_enter Tryz.func53, Tryz.ntmps53
  go_wp2_with fail
  go_loopw [5] (fun i X => ∃ k : Nat, k ≤ s.size ∧ i = .int .i64 k ∧ (∀ c ∈ s.data.toList.take k, c ≠ 32) ∧ X = w) (fun i _ => s.size - (intOf i).toNat)
  case atStart => exact ⟨0, by omega, rfl, by simp, rfl⟩
  case round =>
    obtain ⟨k, hk, rfl, hd, rfl⟩ := hrel
    have HI := Lib.hid hd
    clear hd
    by_cases hlt : k < s.size
    · have HC := Lib.hid (byte_at hlt)
      have hlt' : (k : Int) < (s.size : Int) := by omega
      by_cases hc : s[k] = 32
      · have hc' : ((s[k].toNat : Int) == 32) = true := by rw [hc]; rfl
        have HP := Lib.hid (part_at (by rw [HC.out, hc]) HI.out)
        clear hc
        go_wp2_with fail
        go_quiet (fail)
        go_wp2_with fail
        refine bodyPost_ret (v := .tuple #[.string (s.extract 0 k), .string (s.extract (k + 1) s.size), .bool true]) (by simp [results, Tryz.results53, go_sem]) rfl ?_
        exact ⟨HP.out, _, rfl⟩
      · have hc' : ((s[k].toNat : Int) == 32) = false := by
          simp only [beq_eq_false_iff_ne, ne_eq]
          intro h
          exact hc (UInt8.toNat_inj.1 (by show s[k].toNat = 32; omega))
        have HD := Lib.hid (show ∀ c ∈ s.data.toList.take (k + 1), c ≠ 32 from (all_take_iff HC.out).2 ⟨HI.out, hc⟩)
        clear hc
        go_wp2_with fail
        go_roundw
        case rel => exact ⟨k + 1, by omega, by go_num, HD.out, by first | rfl | trivial⟩
        case measure => simp [intOf]; omega
    · obtain rfl : k = s.size := by omega
      have HP : Hid (PartR s (.returned (.tuple #[.string s, .string ⟨#[]⟩, .bool false]))) := Lib.hid (.inr ⟨by
        have h := HI.out
        rw [List.take_of_length_le (by simp)] at h
        exact fun m => h _ m rfl, rfl⟩)
      clear HI hlt hk
      go_wp2_with fail
      refine bodyPost_ret (v := .tuple #[.string s, .string ⟨#[]⟩, .bool false]) (by simp [results, Tryz.results53, go_sem]) rfl ?_
      exact ⟨HP.out, 0, rfl⟩
end Go.Proofs.YtbbklideciappaaGreatDoor
