/-
  nodeset: formatRun, parseNode, parseRun.
-/
import Derived.Test.YtalfjcamjdmdjaaDoorReadyS
import Derived.Test.YtalfjcamjdmdjaaDoorRunP
namespace Go.Proofs.YtalfjcamjdmdjaaDoor
open Go.RowKit

theorem itoa_nn (n : Nat) : Lib.itoa (n : Int) = Lib.decDigits n := by rw [itoa_nat (by omega)]; rfl
theorem itoaN_any (n : Nat) (h : n < 4096) (w : World) (hr : Ready6 w) : Calls Tryd.prog 47 #[.int .i64 n] w fun e w' => e = .returned (.string (bs (Lib.decDigits n))) ∧ Below w.heap.size w w' := by
  have := itoa_any (n : Int) (by omega) (by omega) w hr
  rwa [itoa_nn] at this
set_option maxRecDepth 100000 in
set_option maxHeartbeats 1000000 in
theorem formatRun_any (a b : Nat) (ha : a < 4096) (hb : b < 4096) (w : World) (hr : Ready6 w) : Calls Tryd.prog 38 #[.int .i64 a, .int .i64 b] w fun e w' => e = .returned (.string (bs (runT a b))) ∧ Below w.heap.size w w' := by
  have HA := Lib.hid (fun (X : World) (hX : Ready6 X) => itoaN_any a ha X hX)
  have HB := Lib.hid (fun (X : World) (hX : Ready6 X) => itoaN_any b hb X hX)
  have HR := Lib.hid hr
  have HD := Lib.hid (And.intro ha hb)
  clear ha hb hr
  obtain ⟨da, hda⟩ : ∃ d, d = Lib.decDigits a := ⟨_, rfl⟩
  obtain ⟨db, hdb⟩ : ∃ d, d = Lib.decDigits b := ⟨_, rfl⟩
  rw [← hda] at HA
  rw [← hdb] at HB
  by_cases hab : a = b
  · subst hab
    have HE := Lib.hid (show runT a a = da by rw [hda, runT_one])
    clear hda hdb
    go_enter Tryd.func38, Tryd.ntmps38
    go_wp2_with fail
    refine (HA.out _ HR.out).mono ?_
    rintro e w2 ⟨rfl, hb2⟩
    go_wp2_with fail
    go_ret
    exact ⟨ret_str (by rw [HE.out]), hb2⟩
  · have HE := Lib.hid (show bs da ++ ⟨#[45]⟩ ++ bs db = bs (runT a b) by
      rw [runT_two hab, hda, hdb]
      show bs _ ++ bs [45] ++ bs _ = _
      rw [bs_append, bs_append]
      simp)
    have hq : ((a : Int) == (b : Int)) = false := by simp; omega
    have hq' : ¬ (a : Int) = (b : Int) := by omega
    have HL := Lib.hid (show da.length ≤ 4 ∧ db.length ≤ 4 by rw [hda, hdb]; exact ⟨dec_len4 HD.out.1, dec_len4 HD.out.2⟩)
    have hs1 : (bs da).size ≤ 4 := by rw [bs_size]; exact HL.out.1
    have hs2 : (bs db).size ≤ 4 := by rw [bs_size]; exact HL.out.2
    clear hab hda hdb
    go_enter Tryd.func38, Tryd.ntmps38
    go_wp2_with fail
    refine (HA.out _ HR.out).mono ?_
    rintro e w2 ⟨rfl, hb2⟩
    have HR2 := Lib.hid (HR.out.below hb2)
    have HB2 := Lib.hid hb2
    clear hb2
    go_wp2_with fail
    refine (HB.out _ HR2.out).mono ?_
    rintro e w3 ⟨rfl, hb3⟩
    have HB3 := Lib.hid hb3
    clear hb3
    go_wp2_with fail
    go_ret
    exact ⟨ret_str HE.out, below_then HB2.out HB3.out⟩
/-- what parseNode returns. -/
def RetNode (l : List UInt8) (w : World) (e : Ending) (w' : World) : Prop :=
  ((∃ n : Nat, n < 4096 ∧ Lib.decDigits n = l ∧ e = .returned (.tuple #[.int .i64 n, .bool true])) ∨ ((∀ n : Nat, n < 4096 → Lib.decDigits n ≠ l) ∧ e = .returned (.tuple #[.int .i64 0, .bool false]))) ∧ Below w.heap.size w w'
theorem atoi_dec (n : Nat) (h : n < 4096) : Lib.atoiAll (Lib.decDigits n) = .ok n := by
  have := atoi_itoa (n := (n : Int)) (by omega) (by omega)
  rwa [itoa_nn] at this
set_option maxRecDepth 100000 in
set_option maxHeartbeats 1000000 in
theorem parseNode_any (s : ByteArray) (hs : s.size ≤ 1099511627776) (w : World) (hr : Ready6 w) : Calls Tryd.prog 53 #[.string s] w (RetNode s.data.toList w) := by
  have HAT := Lib.hid (atoi_any s hs w hr)
  have HR := Lib.hid hr
  clear hr
  go_enter Tryd.func53, Tryd.ntmps53
  go_wp2_with fail
  refine HAT.out.mono ?_
  rintro e w2 ⟨⟨n, hn, rfl⟩ | ⟨hno, n, N, rfl⟩, hb2⟩
  · have HR2 := Lib.hid (HR.out.below hb2)
    have HB2 := Lib.hid hb2
    have HN := Lib.hid hn
    have HNO : Hid (∀ m : Nat, m < 4096 → Lib.decDigits m = s.data.toList → n = m) := Lib.hid (fun m hm e => by
      have h1 := atoi_dec m hm
      rw [e, hn] at h1
      cases h1
      rfl)
    clear hb2 hn HAT
    by_cases h0 : n < 0
    · go_wp2_with fail
      refine bodyPost_ret (v := .tuple #[.int .i64 0, .bool false]) (by simp [results, Tryd.results53, go_sem]) rfl ?_
      exact ⟨.inr ⟨fun m hm e => by have := HNO.out m hm e; omega, rfl⟩, HB2.out⟩
    · by_cases h1 : 4096 ≤ n
      · go_wp2_with fail
        refine bodyPost_ret (v := .tuple #[.int .i64 0, .bool false]) (by simp [results, Tryd.results53, go_sem]) rfl ?_
        exact ⟨.inr ⟨fun m hm e => by have := HNO.out m hm e; omega, rfl⟩, HB2.out⟩
      · obtain ⟨m, rfl⟩ : ∃ m : Nat, n = (m : Int) := ⟨n.toNat, by omega⟩
        have hm : m < 4096 := by omega
        have HIT := Lib.hid (itoaN_any m hm w2 HR2.out)
        by_cases hq : bs (Lib.decDigits m) = s
        · have HE := Lib.hid (show Lib.decDigits m = s.data.toList by rw [← hq, bs_data])
          rw [hq] at HIT
          clear hq
          go_wp2_with fail
          refine HIT.out.mono ?_
          rintro e w3 ⟨rfl, hb3⟩
          have HB3 := Lib.hid hb3
          clear hb3
          go_wp2_with fail
          refine bodyPost_ret (v := .tuple #[.int .i64 m, .bool true]) (by simp [results, Tryd.results53, go_sem]) rfl ?_
          exact ⟨.inl ⟨m, hm, HE.out, rfl⟩, below_then HB2.out HB3.out⟩
        · have HE := Lib.hid (show Lib.decDigits m ≠ s.data.toList from fun e => hq (by rw [e]; exact (bs_of s).symm))
          obtain ⟨y, hy⟩ : ∃ y, y = bs (Lib.decDigits m) := ⟨_, rfl⟩
          rw [← hy] at hq HIT
          have hne : (y.toList == s.toList) = false := beq_eq_false_iff_ne.2 (fun e => hq (by
            rw [ByteArray.toList_eq, ByteArray.toList_eq] at e
            exact ByteArray.ext (Array.toList_inj.1 e)))
          clear hy
          go_wp2_with fail
          refine HIT.out.mono ?_
          rintro e w3 ⟨rfl, hb3⟩
          have HB3 := Lib.hid hb3
          clear hb3
          go_wp2_with fail
          refine bodyPost_ret (v := .tuple #[.int .i64 0, .bool false]) (by simp [results, Tryd.results53, go_sem]) rfl ?_
          exact ⟨.inr ⟨fun k hk e => by
            have h2 : m = k := by have := HNO.out k hk e; omega
            rw [← h2] at e
            exact HE.out e, rfl⟩, below_then HB2.out HB3.out⟩
  · have HB2 := Lib.hid hb2
    have HNO := Lib.hid hno
    clear hb2 hno HAT
    go_wp2_with fail
    refine bodyPost_ret (v := .tuple #[.int .i64 0, .bool false]) (by simp [results, Tryd.results53, go_sem]) rfl ?_
    exact ⟨.inr ⟨fun m hm e => HNO.out m (by rw [← e]; exact atoi_dec m hm), rfl⟩, HB2.out⟩
/-- what parseRun returns. -/
def RetRun (l : List UInt8) (w : World) (e : Ending) (w' : World) : Prop :=
  ((∃ a b : Nat, a ≤ b ∧ b < 4096 ∧ runT a b = l ∧ e = .returned (.tuple #[.int .i64 a, .int .i64 b, .bool true])) ∨ ((∀ a b : Nat, a ≤ b → b < 4096 → runT a b ≠ l) ∧ e = .returned (.tuple #[.int .i64 0, .int .i64 0, .bool false]))) ∧ Below w.heap.size w w'
theorem drewN_below (w : World) (n : Nat) : Below w.heap.size w (w.drewN n) := ⟨rfl, rfl, rfl, Nat.le_refl _, fun _ _ => rfl⟩
theorem dash_first {p q r t : List UInt8} (hp : (45 : UInt8) ∉ p) (hq : (45 : UInt8) ∉ q) (h : p ++ 45 :: r = q ++ 45 :: t) : p = q ∧ r = t := by
  have h1 := cut_hit hp r
  rw [h, cut_hit hq t] at h1
  injection h1 with h2 h3
  injection h3 with h3 h4
  exact ⟨h2.symm, h3.symm⟩
set_option maxRecDepth 100000 in
set_option maxHeartbeats 1000000 in
theorem parseRun_any (s : ByteArray) (hs : s.size ≤ 1099511627) (w : World) (hr : Ready6 w) : Calls Tryd.prog 41 #[.string s] w (RetRun s.data.toList w) := by
  obtain ⟨mx, hmx⟩ := hr.most
  have hsl : s.data.toList.length = s.size := by simp
  have HC := Lib.hid (Tryd.strings_Cut s ⟨#[45]⟩ mx w (by omega) hmx)
  have HR := Lib.hid hr
  clear hr hmx
  rcases cut_cases s.data.toList with ⟨hno, hcut⟩ | ⟨p, r, hp, hsp, hcut⟩
  · have hc2 : Lib.cut s.data.toList (⟨#[45]⟩ : ByteArray).data.toList = (s.data.toList, [], false) := hcut
    have hcs : (⟨s.data.toList.toArray⟩ : ByteArray) = s := (bs_of s).symm
    rw [hc2] at HC
    dsimp only at HC
    rw [hcs] at HC
    have HN := Lib.hid (And.intro hno hsl)
    clear hno hsl hcut hc2 hcs
    go_enter Tryd.func41, Tryd.ntmps41
    go_wp2_with fail
    refine HC.out.mono ?_
    rintro e w1 ⟨rfl, n1, rfl⟩
    have HP := Lib.hid (parseNode_any s (by omega) (w.drewN n1) (HR.out.below (drewN_below w n1)))
    go_wp2_with fail
    refine HP.out.mono ?_
    rintro e w2 ⟨⟨n, hn, hd, rfl⟩ | ⟨hnone, rfl⟩, hb2⟩
    · have HD := Lib.hid (And.intro hd (below_then (drewN_below w n1) hb2))
      clear hd hb2
      go_wp2_with fail
      refine bodyPost_ret (v := .tuple #[.int .i64 n, .int .i64 n, .bool true]) (by simp [results, Tryd.results41, go_sem]) rfl ?_
      exact ⟨.inl ⟨n, n, Nat.le_refl _, hn, (runT_one n).trans HD.out.1, rfl⟩, HD.out.2⟩
    · have HD := Lib.hid (And.intro hnone (below_then (drewN_below w n1) hb2))
      clear hnone hb2
      go_wp2_with fail
      refine bodyPost_ret (v := .tuple #[.int .i64 0, .int .i64 0, .bool false]) (by simp [results, Tryd.results41, go_sem]) rfl ?_
      refine ⟨.inr ⟨fun a b hab hb e => ?_, rfl⟩, HD.out.2⟩
      by_cases q : a = b
      · subst q
        rw [runT_one] at e
        exact HD.out.1 a hb e
      · rw [runT_two q] at e
        exact HN.out.1 (by rw [← e]; simp)
  · have hc2 : Lib.cut s.data.toList (⟨#[45]⟩ : ByteArray).data.toList = (p, r, true) := hcut
    rw [hc2] at HC
    dsimp only at HC
    have hpl : (bs p).size ≤ s.size ∧ (bs r).size ≤ s.size := by
      rw [bs_size, bs_size, ← hsl, hsp, List.length_append, List.length_cons]
      omega
    have HCC : Hid (Calls Tryd.prog 52 #[.string s, .string ⟨#[45]⟩] w fun e w' => e = .returned (.tuple #[.string (bs p), .string (bs r), .bool true]) ∧ ∃ n, w' = w.drewN n) := HC
    have HN := Lib.hid (And.intro hp hsp)
    clear hp hsp hsl hcut hc2 HC
    obtain ⟨P, hP⟩ : ∃ P, P = bs p := ⟨_, rfl⟩
    obtain ⟨R, hR⟩ : ∃ R, R = bs r := ⟨_, rfl⟩
    have HPR := Lib.hid (show P.data.toList = p ∧ R.data.toList = r by rw [hP, hR]; exact ⟨bs_data _, bs_data _⟩)
    rw [← hP, ← hR] at HCC hpl
    clear hP hR
    go_enter Tryd.func41, Tryd.ntmps41
    go_wp2_with fail
    refine HCC.out.mono ?_
    rintro e w1 ⟨rfl, n1, rfl⟩
    have HP := Lib.hid (parseNode_any P (by omega) (w.drewN n1) (HR.out.below (drewN_below w n1)))
    go_wp2_with fail
    refine HP.out.mono ?_
    rintro e w2 ⟨⟨n, hn, hd, rfl⟩ | ⟨hnone, rfl⟩, hb2⟩
    · have HD := Lib.hid (And.intro hd (below_then (drewN_below w n1) hb2))
      have HP2 := Lib.hid (parseNode_any R (by omega) w2 ((HR.out.below (drewN_below w n1)).below hb2))
      clear hd hb2
      go_wp2_with fail
      refine HP2.out.mono ?_
      rintro e w3 ⟨⟨m, hm, hd3, rfl⟩ | ⟨hnone, rfl⟩, hb3⟩
      · have HD3 := Lib.hid (And.intro hd3 (below_then HD.out.2 hb3))
        clear hd3 hb3
        by_cases hmn : m ≤ n
        · have hmn' : (m : Int) ≤ (n : Int) := by omega
          go_wp2_with fail
          refine bodyPost_ret (v := .tuple #[.int .i64 0, .int .i64 0, .bool false]) (by simp [results, Tryd.results41, go_sem]) rfl ?_
          refine ⟨.inr ⟨fun a b hab hb e => ?_, rfl⟩, HD3.out.2⟩
          by_cases q : a = b
          · subst q
            rw [runT_one, HN.out.2] at e
            exact dash_dec a (by rw [e]; simp)
          · rw [runT_two q, HN.out.2] at e
            obtain ⟨e1, e2⟩ := dash_first (dash_dec a) HN.out.1 e
            have f1 := dec_inj (e1.trans (HPR.out.1.symm.trans HD.out.1.symm))
            have f2 := dec_inj (e2.trans (HPR.out.2.symm.trans HD3.out.1.symm))
            omega
        · have hmn' : ¬ (m : Int) ≤ (n : Int) := by omega
          go_wp2_with fail
          refine bodyPost_ret (v := .tuple #[.int .i64 n, .int .i64 m, .bool true]) (by simp [results, Tryd.results41, go_sem]) rfl ?_
          refine ⟨.inl ⟨n, m, by omega, hm, ?_, rfl⟩, HD3.out.2⟩
          rw [runT_two (by omega), HN.out.2, HD.out.1, HD3.out.1, HPR.out.1, HPR.out.2]
      · have HD3 := Lib.hid (And.intro hnone (below_then HD.out.2 hb3))
        clear hnone hb3
        go_wp2_with fail
        refine bodyPost_ret (v := .tuple #[.int .i64 0, .int .i64 0, .bool false]) (by simp [results, Tryd.results41, go_sem]) rfl ?_
        refine ⟨.inr ⟨fun a b hab hb e => ?_, rfl⟩, HD3.out.2⟩
        by_cases q : a = b
        · subst q
          rw [runT_one, HN.out.2] at e
          exact dash_dec a (by rw [e]; simp)
        · rw [runT_two q, HN.out.2] at e
          obtain ⟨e1, e2⟩ := dash_first (dash_dec a) HN.out.1 e
          exact HD3.out.1 b hb (e2.trans HPR.out.2.symm)
    · have HD := Lib.hid (And.intro hnone (below_then (drewN_below w n1) hb2))
      clear hnone hb2
      go_wp2_with fail
      refine bodyPost_ret (v := .tuple #[.int .i64 0, .int .i64 0, .bool false]) (by simp [results, Tryd.results41, go_sem]) rfl ?_
      refine ⟨.inr ⟨fun a b hab hb e => ?_, rfl⟩, HD.out.2⟩
      by_cases q : a = b
      · subst q
        rw [runT_one, HN.out.2] at e
        exact dash_dec a (by rw [e]; simp)
      · rw [runT_two q, HN.out.2] at e
        obtain ⟨e1, e2⟩ := dash_first (dash_dec a) HN.out.1 e
        exact HD.out.1 a (by omega) (e1.trans HPR.out.1.symm)
end Go.Proofs.YtalfjcamjdmdjaaDoor
