/-
  samaritanref12: begun, said (printed by genpqbg.py).
-/
import Derived.Test.YtbbklideciappaaGreatDoorPqNr
import Derived.Test.YtbbklideciappaaGreatDoorPqX
namespace Go.Proofs.YtbbklideciappaaGreatDoor
open Go.RowKit Go.Maps

theorem cut32 {p r p' r' : List UInt8} (h : (32 : UInt8) ∉ p) (h' : (32 : UInt8) ∉ p') (e : p ++ 32 :: r = p' ++ 32 :: r') : p = p' ∧ r = r' := by
  have h1 := cutC_hit h r
  rw [e, cutC_hit h' r'] at h1
  injection h1 with h1 h2
  injection h2 with h2 _
  exact ⟨h1.symm, h2.symm⟩
theorem below_set3 {B : Nat} {w w' : World} (h : Below B w w') {b : Nat} (hB : B ≤ b) (u0 u1 u2 : Value) : Below B w (((w'.setCell ⟨b, 0, none⟩ u0).setCell ⟨b, 1, none⟩ u1).setCell ⟨b, 2, none⟩ u2) :=
  ((h.setCell (p := ⟨b, 0, none⟩) hB _).setCell (p := ⟨b, 1, none⟩) hB _).setCell (p := ⟨b, 2, none⟩) hB _
theorem below_set4 {B : Nat} {w w' : World} (h : Below B w w') {b : Nat} (hB : B ≤ b) (u0 u1 u2 u3 : Value) : Below B w ((((w'.setCell ⟨b, 0, none⟩ u0).setCell ⟨b, 1, none⟩ u1).setCell ⟨b, 2, none⟩ u2).setCell ⟨b, 3, none⟩ u3) :=
  (below_set3 h hB u0 u1 u2).setCell (p := ⟨b, 3, none⟩) hB _
theorem head_cut {l p r : List UInt8} (hp : (32 : UInt8) ∉ p) (hl : l = p ++ 32 :: r) {n : ByteArray} {v : Int} (h : IsHead l n v) : p = wProt ∧ r = n.data.toList ++ 32 :: dec v := by
  have h1 := h.1
  unfold lHead at h1
  rw [hl] at h1
  exact cut32 hp (by unfold wProt; decide) h1
theorem head_none {l : List UInt8} (h : (32 : UInt8) ∉ l) (n : ByteArray) (v : Int) : ¬ IsHead l n v := fun q => h (by
  rw [q.1]
  unfold lHead
  simp)
/-- what begun returns. -/
def RetBg (l : List UInt8) (w : World) (e : Ending) (w' : World) : Prop :=
  ∃ n v b, e = .returned (.tuple #[protV n v none 0 0, .bool b]) ∧ ((b = true ∧ IsHead l n v) ∨ (b = false ∧ ∀ n v, ¬ IsHead l n v)) ∧ Below w.heap.size w w'
set_option maxRecDepth 100000 in
set_option maxHeartbeats 8000000 in
theorem begun_any (s : ByteArray) (hs : s.size ≤ 1000000000) (w : World) : Calls Tryz.prog 31 #[.string s] w (RetBg s.data.toList w) := by
  have hb0 := below_new w (.cells #[.string ⟨#[]⟩, .int .i64 0, .slice none 0 0] 24)
  obtain ⟨q0, q1, q2⟩ := fresh3 w (.string ⟨#[]⟩) (.int .i64 0) (.slice none 0 0) 24
  have k0 := free_new w #[.string ⟨#[]⟩, .int .i64 0, .slice none 0 0] 24
  obtain ⟨W1, hW1⟩ : ∃ W1, W1 = w.alloc (.cells #[.string ⟨#[]⟩, .int .i64 0, .slice none 0 0] 24) := ⟨_, rfl⟩
  rw [← hW1] at q0 q1 q2 hb0 k0
  have l0 := k0 0
  have l1 := k0 1
  have l2 := k0 2
  have HB1 := Lib.hid hb0
  have HP1 := Lib.hid (fun X => parted_any s (by omega) X)
  have HNB := Lib.hid (fun (t : ByteArray) (ht : t.size ≤ 1000000000) X => refNumber_any t (by omega) 1048576 (by omega) X)
  clear k0 hb0
  go_enter Tryz.func31, Tryz.ntmps31
  go_wp2_with fail
  rw [← hW1]
  clear hW1
  refine (HP1.out _).mono ?_
  rintro e w2 ⟨⟨p, r, hp, hl, rfl⟩ | ⟨hno, rfl⟩, n1, rfl⟩
  · have hsz : p.length + r.length + 1 = s.size := by
      have := congrArg List.length hl
      simp only [List.length_append, List.length_cons, size_len] at this
      omega
    have HL := Lib.hid (And.intro hp hl)
    have hrs : (bs r).size ≤ 1000000000 := by rw [bs_size]; omega
    have HP2 := Lib.hid (fun X => parted_any (bs r) (by omega) X)
    obtain ⟨R, hR⟩ : ∃ R, R = bs r := ⟨_, rfl⟩
    obtain ⟨A, hA⟩ : ∃ A, A = bs p := ⟨_, rfl⟩
    have HAR := Lib.hid (And.intro hA hR)
    rw [← hR] at HP2 hrs
    rw [← hR, ← hA]
    clear hp hl hR hA
    go_wp2_with fail
    refine (HP2.out _).mono ?_
    rintro e w3 ⟨⟨p2, r2, hp2, hl2, rfl⟩ | ⟨hno2, rfl⟩, n2, rfl⟩
    · have hsz2 : p2.length + r2.length + 1 = r.length := by
        rw [HAR.out.2, bs_data] at hl2
        have := congrArg List.length hl2
        simp only [List.length_append, List.length_cons] at this
        omega
      have HL2 := Lib.hid (show (32 : UInt8) ∉ p2 ∧ r = p2 ++ 32 :: r2 from ⟨hp2, by rw [HAR.out.2, bs_data] at hl2; exact hl2⟩)
      have HN := Lib.hid (HNB.out (bs r2) (by rw [bs_size]; omega))
      have HWD := Lib.hid (fun X => word_any (bs p2) (by rw [bs_size]; omega) X)
      rw [bs_data] at HN
      obtain ⟨V, hV⟩ : ∃ V, V = bs r2 := ⟨_, rfl⟩
      obtain ⟨M, hM⟩ : ∃ M, M = bs p2 := ⟨_, rfl⟩
      have HMV := Lib.hid (And.intro hM hV)
      rw [← hV] at HN
      rw [← hM] at HWD
      rw [← hV, ← hM]
      have HNO : Hid (∀ n v, IsHead s.data.toList n v → A.data.toList = wProt ∧ M = n ∧ r2 = dec v) := Lib.hid (fun n v h => by
        obtain ⟨h1, h2⟩ := head_cut HL.out.1 HL.out.2 h
        rw [HL2.out.2] at h2
        obtain ⟨h3, h4⟩ := cut32 HL2.out.1 (name_none h.2.1).1 h2
        exact ⟨by rw [HAR.out.1, bs_data]; exact h1, by rw [HMV.out.1, h3]; exact (bs_of n).symm, h4⟩)
      clear hp2 hl2 hV hM
      go_wp2_with fail
      refine (HN.out _).mono ?_
      rintro e w4 ⟨⟨z, hz, rfl⟩, n3, rfl⟩
      have HZ := Lib.hid hz
      clear hz
      by_cases h0 : A.data.toList = wProt
      · have d0 : (A.toList == [112, 114, 111, 116, 111, 99, 111, 108]) = true := eq_lit.trans (decide_eq_true h0)
        by_cases h1 : NameOk M
        · rw [tb_true h1] at HWD
          by_cases h2 : 1 ≤ z
          · have d2 : decide (z ≥ 1) = true := decide_eq_true h2
            have HY := Lib.hid (show IsHead s.data.toList M z from by
              rcases HZ.out with ⟨n, hn, hd, rfl⟩ | ⟨_, rfl⟩
              · refine ⟨?_, h1, by unfold VerOk; omega⟩
                have h3 := HL.out.2
                rw [HL2.out.2] at h3
                unfold lHead
                rw [h3, HMV.out.1, bs_data, ← h0, HAR.out.1, bs_data, ← hd]
                rfl
              · omega)
            clear h0 h1 h2
            go_wp2_with fail
            refine (HWD.out _).mono ?_
            rintro e w5 ⟨rfl, rfl⟩
            go_wp2_with fail
            refine bodyPost_ret (v := .tuple #[protV M z none 0 0, .bool true]) (by simp [results, Tryz.results31, go_sem, q0, q1, q2, protV]) rfl ?_
            exact ⟨M, z, true, rfl, .inl ⟨rfl, HY.out⟩, below_set3 (by repeat (first | exact HB1.out | refine below_drewN' ?_ _)) (Nat.le_refl _) _ _ _⟩
          · have d2 : decide (z ≥ 1) = false := decide_eq_false h2
            have HNN := Lib.hid (show ∀ n v, ¬ IsHead s.data.toList n v from fun n v h => by
              have h3 := (HNO.out n v h).2.2
              have h4 := h.2.2
              unfold VerOk at h4
              rcases HZ.out with ⟨n, hn, hd, rfl⟩ | ⟨hno, _⟩
              · have h5 : dec v = Lib.decDigits v.toNat := rfl
                rw [h5, ← hd] at h3
                have := dec_inj h3
                omega
              · exact hno v.toNat (by omega) h3.symm)
            clear h0 h1 h2
            go_wp2_with fail
            refine (HWD.out _).mono ?_
            rintro e w5 ⟨rfl, rfl⟩
            go_wp2_with fail
            refine bodyPost_ret (v := .tuple #[protV M z none 0 0, .bool false]) (by simp [results, Tryz.results31, go_sem, q0, q1, q2, protV]) rfl ?_
            exact ⟨M, z, false, rfl, .inr ⟨rfl, HNN.out⟩, below_set3 (by repeat (first | exact HB1.out | refine below_drewN' ?_ _)) (Nat.le_refl _) _ _ _⟩
        · rw [tb_false h1] at HWD
          have HNN := Lib.hid (show ∀ n v, ¬ IsHead s.data.toList n v from fun n v h => h1 (by rw [(HNO.out n v h).2.1]; exact h.2.1))
          clear h0 h1
          go_wp2_with fail
          refine (HWD.out _).mono ?_
          rintro e w5 ⟨rfl, rfl⟩
          go_wp2_with fail
          refine bodyPost_ret (v := .tuple #[protV M z none 0 0, .bool false]) (by simp [results, Tryz.results31, go_sem, q0, q1, q2, protV]) rfl ?_
          exact ⟨M, z, false, rfl, .inr ⟨rfl, HNN.out⟩, below_set3 (by repeat (first | exact HB1.out | refine below_drewN' ?_ _)) (Nat.le_refl _) _ _ _⟩
      · have d0 : (A.toList == [112, 114, 111, 116, 111, 99, 111, 108]) = false := eq_lit.trans (decide_eq_false h0)
        have HNN := Lib.hid (show ∀ n v, ¬ IsHead s.data.toList n v from fun n v h => h0 (HNO.out n v h).1)
        clear h0
        go_wp2_with fail
        refine bodyPost_ret (v := .tuple #[protV M z none 0 0, .bool false]) (by simp [results, Tryz.results31, go_sem, q0, q1, q2, protV]) rfl ?_
        exact ⟨M, z, false, rfl, .inr ⟨rfl, HNN.out⟩, below_set3 (by repeat (first | exact HB1.out | refine below_drewN' ?_ _)) (Nat.le_refl _) _ _ _⟩
    · have HNN := Lib.hid (show ∀ n v, ¬ IsHead s.data.toList n v from fun n v h => by
        obtain ⟨_, h2⟩ := head_cut HL.out.1 HL.out.2 h
        refine hno2 ?_
        rw [HAR.out.2, bs_data, h2]
        simp)
      have HN := Lib.hid (HNB.out ⟨#[]⟩ (by decide))
      clear hno2
      go_wp2_with fail
      refine (HN.out _).mono ?_
      rintro e w4 ⟨⟨z, hz, rfl⟩, n3, rfl⟩
      clear hz
      go_wp2_with fail
      refine bodyPost_ret (v := .tuple #[protV R z none 0 0, .bool false]) (by simp [results, Tryz.results31, go_sem, q0, q1, q2, protV]) rfl ?_
      exact ⟨R, z, false, rfl, .inr ⟨rfl, HNN.out⟩, below_set3 (by repeat (first | exact HB1.out | refine below_drewN' ?_ _)) (Nat.le_refl _) _ _ _⟩
  · have HNN := Lib.hid (show ∀ n v, ¬ IsHead s.data.toList n v from head_none hno)
    have HN := Lib.hid (HNB.out ⟨#[]⟩ (by decide))
    have HP2 := Lib.hid (fun X => parted_any ⟨#[]⟩ (by decide) X)
    clear hno
    go_wp2_with fail
    refine (HP2.out _).mono ?_
    rintro e w3 ⟨⟨p2, r2, hp2, hl2, rfl⟩ | ⟨hno2, rfl⟩, n2, rfl⟩
    · simp at hl2
    clear hno2
    go_wp2_with fail
    refine (HN.out _).mono ?_
    rintro e w4 ⟨⟨z, hz, rfl⟩, n3, rfl⟩
    clear hz
    go_wp2_with fail
    refine bodyPost_ret (v := .tuple #[protV ⟨#[]⟩ z none 0 0, .bool false]) (by simp [results, Tryz.results31, go_sem, q0, q1, q2, protV]) rfl ?_
    exact ⟨⟨#[]⟩, z, false, rfl, .inr ⟨rfl, HNN.out⟩, below_set3 (by repeat (first | exact HB1.out | refine below_drewN' ?_ _)) (Nat.le_refl _) _ _ _⟩
/-- where the last separator stands among the first k places: z is one more than that, or -1. -/
def AtTo (l : List UInt8) (k : Nat) (z : Int) : Prop := (z = -1 ∧ ∀ j, j < k → ¬ SepAt l j) ∨ ∃ j : Nat, j < k ∧ z = j + 1 ∧ SepAt l j ∧ ∀ i, j < i → i < k → ¬ SepAt l i
theorem AtTo.skip {l : List UInt8} {k : Nat} {z : Int} (h : AtTo l k z) (hn : ¬ SepAt l k) : AtTo l (k + 1) z := by
  rcases h with ⟨h1, h2⟩ | ⟨j, h1, h2, h3, h4⟩
  · refine .inl ⟨h1, fun j hj => ?_⟩
    rcases Nat.lt_or_ge j k with q | q
    · exact h2 j q
    · obtain rfl : j = k := by omega
      exact hn
  · refine .inr ⟨j, by omega, h2, h3, fun i hi hik => ?_⟩
    rcases Nat.lt_or_ge i k with q | q
    · exact h4 i hi q
    · obtain rfl : i = k := by omega
      exact hn
theorem AtTo.hit {l : List UInt8} {k : Nat} (hs : SepAt l k) : AtTo l (k + 1) (k + 1) := .inr ⟨k, by omega, rfl, hs, fun i h1 h2 => by omega⟩
theorem sepAt_iff {l : List UInt8} {k : Nat} {b0 b1 b2 : UInt8} (h0 : l[k]? = some b0) (h1 : l[k + 1]? = some b1) (h2 : l[k + 2]? = some b2) : SepAt l k ↔ b0 = 32 ∧ (b1 = 62 ∨ b1 = 61) ∧ b2 = 32 := by
  obtain ⟨a0, e0⟩ := List.getElem?_eq_some_iff.1 h0
  obtain ⟨a1, e1⟩ := List.getElem?_eq_some_iff.1 h1
  obtain ⟨a2, e2⟩ := List.getElem?_eq_some_iff.1 h2
  have e : l.drop k = b0 :: b1 :: b2 :: l.drop (k + 3) := by
    rw [List.drop_eq_getElem_cons a0, List.drop_eq_getElem_cons a1, List.drop_eq_getElem_cons a2, e0, e1, e2]
  constructor
  · rintro ⟨c, r, hc, q⟩
    rw [e] at q
    injection q with q1 q
    injection q with q2 q
    injection q with q3 _
    exact ⟨q1, by rw [q2]; exact hc, q3⟩
  · rintro ⟨rfl, hc, rfl⟩
    exact ⟨b1, _, hc, e⟩
theorem AtTo.all {l : List UInt8} {k : Nat} {z : Int} (h : AtTo l k z) (hk : l.length ≤ k + 2) : (z = -1 ∧ ∀ j, ¬ SepAt l j) ∨ ∃ j : Nat, z = j + 1 ∧ LastSep l j := by
  have far : ∀ j, k ≤ j → ¬ SepAt l j := fun j hj hs => by
    obtain ⟨_, _, h3, _⟩ := sep_at hs
    omega
  rcases h with ⟨h1, h2⟩ | ⟨j, h1, h2, h3, h4⟩
  · refine .inl ⟨h1, fun j => ?_⟩
    rcases Nat.lt_or_ge j k with q | q
    · exact h2 j q
    · exact far j q
  · refine .inr ⟨j, h2, h3, fun i hi => ?_⟩
    rcases Nat.lt_or_ge i k with q | q
    · exact h4 i hi q
    · exact far i q
theorem AtTo.start {l : List UInt8} : AtTo l 0 (-1) := .inl ⟨rfl, fun _ h => absurd h (Nat.not_lt_zero _)⟩
theorem b_eq {b : UInt8} {n : Nat} (hn : n < 256) (h : b = UInt8.ofNat n) : ((b.toNat : Int) == (n : Int)) = true := by
  subst h
  have e : (UInt8.ofNat n).toNat = n := by simp [UInt8.toNat_ofNat']; omega
  rw [e]
  simp
theorem b_ne {b : UInt8} {n : Nat} (hn : n < 256) (h : b ≠ UInt8.ofNat n) : ((b.toNat : Int) == (n : Int)) = false := by
  simp only [beq_eq_false_iff_ne, ne_eq]
  intro e
  refine h (UInt8.toNat_inj.1 ?_)
  have e2 : (UInt8.ofNat n).toNat = n := by simp [UInt8.toNat_ofNat']; omega
  rw [e2]
  omega
set_option maxRecDepth 100000 in
set_option maxHeartbeats 8000000 in
theorem said_any (s : ByteArray) (hs : s.size ≤ 1000000000) (w : World) : Calls Tryz.prog 55 #[.string s] w (RetAn s.data.toList w) := by
  have hb0 := below_new w (.cells #[.string ⟨#[]⟩, .int .i64 0, .int .i64 0, .string ⟨#[]⟩] 45)
  obtain ⟨q0, q1, q2, q3⟩ := fresh4 w (.string ⟨#[]⟩) (.int .i64 0) (.int .i64 0) (.string ⟨#[]⟩) 45
  have k0 := free_new w #[.string ⟨#[]⟩, .int .i64 0, .int .i64 0, .string ⟨#[]⟩] 45
  obtain ⟨W1, hW1⟩ : ∃ W1, W1 = w.alloc (.cells #[.string ⟨#[]⟩, .int .i64 0, .int .i64 0, .string ⟨#[]⟩] 45) := ⟨_, rfl⟩
  rw [← hW1] at q0 q1 q2 q3 hb0 k0
  have l0 := k0 0
  have l1 := k0 1
  have l2 := k0 2
  have l3 := k0 3
  have HB1 := Lib.hid hb0
  have HNB := Lib.hid (fun (t : ByteArray) (ht : t.size ≤ 1000000000) (m : Nat) (hm : m ≤ 1048576) X => refNumber_any t (by omega) m hm X)
  clear k0 hb0
  go_enter Tryz.func55, Tryz.ntmps55
  go_wp2_with fail
  rw [← hW1]
  clear hW1
  go_loopw [4, 5] (fun z i X => ∃ (k : Nat) (a : Int), k ≤ s.size ∧ i = .int .i64 ((k : Int) + 1) ∧ z = .int .i64 a ∧ AtTo s.data.toList k a ∧ X = W1) (fun _ i _ => s.size - (intOf i).toNat)
  case atStart => exact ⟨0, -1, by omega, rfl, rfl, AtTo.start, rfl⟩
  case round =>
    obtain ⟨k, a, hk, rfl, rfl, hat, rfl⟩ := hrel
    have HAT := Lib.hid hat
    clear hat
    have w1 : IntKind.i64.wrap ((k : Int) + 1 + 1) = (k : Int) + 1 + 1 := IntWalk.i64_in _ (by omega)
    by_cases hlt : k + 2 < s.size
    · have d1 : decide ((k : Int) + 1 + 1 < (s.size : Int)) = true := decide_eq_true (by omega)
      have x0 : (k : Int) < (s.size : Int) := by omega
      have x1 : (k : Int) + 1 < (s.size : Int) := by omega
      have x2 : (k : Int) + 1 + 1 < (s.size : Int) := by omega
      have y0 : k < s.size := by omega
      have y1 : k + 1 < s.size := by omega
      have HI := Lib.hid (sepAt_iff (byte_at y0) (byte_at y1) (byte_at hlt))
      by_cases c62 : s[k + 1] = 62
      · have e62 : ((s[k + 1].toNat : Int) == 62) = true := b_eq (n := 62) (by omega) c62
        have c1 : s[k + 1] = 62 ∨ s[k + 1] = 61 := .inl c62
        clear c62
        by_cases c0 : s[k] = 32
        · have e0 : ((s[k].toNat : Int) == 32) = true := b_eq (n := 32) (by omega) c0
          by_cases c2 : s[k + 2] = 32
          · have e2 : ((s[k + 2].toNat : Int) == 32) = true := b_eq (n := 32) (by omega) c2
            have HH := Lib.hid (HI.out.2 ⟨c0, c1, c2⟩)
            clear c0 c1 c2
            go_wp2_with fail
            go_roundw
            case rel => exact ⟨k + 1, (k : Int) + 1, by omega, val_eq (by omega), rfl, AtTo.hit HH.out, by first | rfl | trivial⟩
            case measure => simp [intOf]; omega
          · have e2 : ((s[k + 2].toNat : Int) == 32) = false := b_ne (n := 32) (by omega) c2
            have HH := Lib.hid (show ¬ SepAt s.data.toList k from fun h => c2 (HI.out.1 h).2.2)
            clear c0 c1 c2
            go_wp2_with fail
            go_roundw
            case rel => exact ⟨k + 1, a, by omega, val_eq (by omega), rfl, HAT.out.skip HH.out, by first | rfl | trivial⟩
            case measure => simp [intOf]; omega
        · have e0 : ((s[k].toNat : Int) == 32) = false := b_ne (n := 32) (by omega) c0
          have HH := Lib.hid (show ¬ SepAt s.data.toList k from fun h => c0 (HI.out.1 h).1)
          clear c0 c1
          go_wp2_with fail
          go_roundw
          case rel => exact ⟨k + 1, a, by omega, val_eq (by omega), rfl, HAT.out.skip HH.out, by first | rfl | trivial⟩
          case measure => simp [intOf]; omega
      · have e62 : ((s[k + 1].toNat : Int) == 62) = false := b_ne (n := 62) (by omega) c62
        by_cases c61 : s[k + 1] = 61
        · have e61 : ((s[k + 1].toNat : Int) == 61) = true := b_eq (n := 61) (by omega) c61
          have c1 : s[k + 1] = 62 ∨ s[k + 1] = 61 := .inr c61
          clear c61 c62
          by_cases c0 : s[k] = 32
          · have e0 : ((s[k].toNat : Int) == 32) = true := b_eq (n := 32) (by omega) c0
            by_cases c2 : s[k + 2] = 32
            · have e2 : ((s[k + 2].toNat : Int) == 32) = true := b_eq (n := 32) (by omega) c2
              have HH := Lib.hid (HI.out.2 ⟨c0, c1, c2⟩)
              clear c0 c1 c2
              go_wp2_with fail
              go_roundw
              case rel => exact ⟨k + 1, (k : Int) + 1, by omega, val_eq (by omega), rfl, AtTo.hit HH.out, by first | rfl | trivial⟩
              case measure => simp [intOf]; omega
            · have e2 : ((s[k + 2].toNat : Int) == 32) = false := b_ne (n := 32) (by omega) c2
              have HH := Lib.hid (show ¬ SepAt s.data.toList k from fun h => c2 (HI.out.1 h).2.2)
              clear c0 c1 c2
              go_wp2_with fail
              go_roundw
              case rel => exact ⟨k + 1, a, by omega, val_eq (by omega), rfl, HAT.out.skip HH.out, by first | rfl | trivial⟩
              case measure => simp [intOf]; omega
          · have e0 : ((s[k].toNat : Int) == 32) = false := b_ne (n := 32) (by omega) c0
            have HH := Lib.hid (show ¬ SepAt s.data.toList k from fun h => c0 (HI.out.1 h).1)
            clear c0 c1
            go_wp2_with fail
            go_roundw
            case rel => exact ⟨k + 1, a, by omega, val_eq (by omega), rfl, HAT.out.skip HH.out, by first | rfl | trivial⟩
            case measure => simp [intOf]; omega
        · have e61 : ((s[k + 1].toNat : Int) == 61) = false := b_ne (n := 61) (by omega) c61
          have HH := Lib.hid (show ¬ SepAt s.data.toList k from fun h => (HI.out.1 h).2.1.elim c62 c61)
          clear c61 c62
          go_wp2_with fail
          go_roundw
          case rel => exact ⟨k + 1, a, by omega, val_eq (by omega), rfl, HAT.out.skip HH.out, by first | rfl | trivial⟩
          case measure => simp [intOf]; omega
    · have d1 : decide ((k : Int) + 1 + 1 < (s.size : Int)) = false := decide_eq_false (by omega)
      have hall := HAT.out.all (by rw [size_len]; omega)
      clear HAT hlt hk
      rcases hall with ⟨rfl, hno⟩ | ⟨j, rfl, hsep⟩
      · have HN : Hid (∀ a, ¬ IsAns s.data.toList a) := Lib.hid (ans_none hno)
        clear hno
        go_wp2_with fail
        refine bodyPost_ret (v := .tuple #[ansV ⟨⟨#[]⟩, 0, 0, ⟨#[]⟩⟩, .bool false]) (by simp [results, Tryz.results55, go_sem, q0, q1, q2, q3, ansV]) rfl ?_
        exact ⟨.inr ⟨HN.out, _, rfl⟩, below_set4 (by repeat (first | exact HB1.out | refine below_drewN' ?_ _ | refine Below.drew ?_)) (Nat.le_refl _) _ _ _ _⟩
      · obtain ⟨c, hc, hi, hci, hdr⟩ := sep_at hsep.1
        rw [size_len] at hi
        have hi1 : j + 1 < s.size := by omega
        have hcs : s[j + 1] = c := by
          have h1 := byte_at (s := s) (k := j + 1) (by omega)
          rw [hci] at h1
          exact (Option.some.inj h1).symm
        have z0 : ¬ (j : Int) + 1 < 1 := by omega
        have z1 : (j : Int) + 1 - 1 = j := by omega
        have z2 : IntKind.i64.wrap ((j : Int) + 1 + 2) = (j : Int) + 3 := by rw [IntWalk.i64_in _ (by omega)]; omega
        have z3 : (j : Int) ≤ (s.size : Int) := by omega
        have z4 : (j : Int) + 3 ≤ (s.size : Int) := by omega
        have z5 : (j : Int) + 1 < (s.size : Int) := by omega
        have z6 : IntKind.i64.wrap (j : Int) = (j : Int) := IntWalk.i64_in _ (by omega)
        obtain ⟨T, hT⟩ : ∃ T, s.extract 0 j = T := ⟨_, rfl⟩
        obtain ⟨R, hR⟩ : ∃ R, s.extract (j + 3) s.size = R := ⟨_, rfl⟩
        have HT := Lib.hid (show T.data.toList = s.data.toList.take j by rw [← hT]; exact take_ext s j)
        have hRd : R.data.toList = s.data.toList.drop (j + 3) := by rw [← hR]; exact drop_ext s (j + 3)
        have hRs : R.size ≤ 1000000000 := by rw [← hR]; simp; omega
        rw [← hRd] at hdr
        have HS := Lib.hid (And.intro hsep (And.intro hdr hRd))
        have HPH := Lib.hid (fun X => phrase_any T 100 (by omega) 100 rfl X)
        clear hsep hdr hRd hci
        by_cases hp : PhraseOk T 100
        · rw [tb_true hp] at HPH
          have HPP := Lib.hid hp
          clear hp
          rcases hc with hc | hc
          · have d62 : ((s[j + 1].toNat : Int) == 62) = true := by rw [hcs, hc]; rfl
            subst hc
            have HI := Lib.hid (fun a => ans_gt (a := a) HS.out.1 HS.out.2.1)
            clear hcs hi
            go_wp2_with fail
            refine (HPH.out _).mono ?_
            rintro e w' ⟨rfl, rfl⟩
            go_wp2_with fail
            refine (HNB.out R (by omega) 63 (by omega) _).mono ?_
            rintro e w4 ⟨⟨z, hz, rfl⟩, n3, rfl⟩
            rcases hz with ⟨n, hn, hd, rfl⟩ | ⟨hno, rfl⟩
            · have HY : Hid (IsAns s.data.toList ⟨T, n, 0, ⟨#[]⟩⟩) := Lib.hid ((HI.out _).2 ⟨⟨HPP.out, HT.out⟩, ⟨by show (0 : Int) ≤ (n : Int); omega, by show (n : Int) < 64; omega⟩, hd, rfl, rfl⟩)
              have dn : decide ((n : Int) ≥ 0) = true := decide_eq_true (by omega)
              clear hd
              go_wp2_with fail
              refine bodyPost_ret (v := .tuple #[ansV ⟨T, n, 0, ⟨#[]⟩⟩, .bool true]) (by simp [results, Tryz.results55, go_sem, q0, q1, q2, q3, ansV]) rfl ?_
              exact ⟨.inl ⟨_, HY.out, rfl⟩, below_set4 (by repeat (first | exact HB1.out | refine below_drewN' ?_ _ | refine Below.drew ?_)) (Nat.le_refl _) _ _ _ _⟩
            · have HN : Hid (∀ a, ¬ IsAns s.data.toList a) := Lib.hid (fun a h => by
                obtain ⟨_, ⟨h1, h2⟩, h3, _⟩ := (HI.out a).1 h
                exact hno a.next.toNat (by omega) h3)
              clear hno
              go_wp2_with fail
              refine bodyPost_ret (v := .tuple #[ansV ⟨T, -1, 0, ⟨#[]⟩⟩, .bool false]) (by simp [results, Tryz.results55, go_sem, q0, q1, q2, q3, ansV]) rfl ?_
              exact ⟨.inr ⟨HN.out, _, rfl⟩, below_set4 (by repeat (first | exact HB1.out | refine below_drewN' ?_ _ | refine Below.drew ?_)) (Nat.le_refl _) _ _ _ _⟩
          · have d62 : ((s[j + 1].toNat : Int) == 62) = false := by rw [hcs, hc]; rfl
            subst hc
            have HI := Lib.hid (fun a => ans_eq (a := a) HS.out.1 HS.out.2.1)
            have HPT := Lib.hid (fun X => parted_any R (by omega) X)
            clear hcs hi
            go_wp2_with fail
            refine (HPH.out _).mono ?_
            rintro e w' ⟨rfl, rfl⟩
            go_wp2_with fail
            refine (HPT.out _).mono ?_
            rintro e w3 ⟨⟨p, r, hpp, hl, rfl⟩ | ⟨hno, rfl⟩, n2, rfl⟩
            · have hsz : p.length + r.length + 1 = R.size := by
                have := congrArg List.length hl
                simp only [List.length_append, List.length_cons, size_len] at this
                omega
              have HNN := Lib.hid (HNB.out (bs p) (by rw [bs_size]; omega) 5 (by omega))
              rw [bs_data] at HNN
              have HCD := Lib.hid (fun X => refCode_any (bs r) (by rw [bs_size]; omega) X)
              obtain ⟨U, hU⟩ : ∃ U, U = bs p := ⟨_, rfl⟩
              obtain ⟨C, hC⟩ : ∃ U, U = bs r := ⟨_, rfl⟩
              have HUC := Lib.hid (And.intro hU hC)
              rw [← hU] at HNN
              rw [← hC] at HCD
              rw [← hU, ← hC]
              have HQ : Hid (∀ a, IsAns s.data.toList a → dec a.urg = p ∧ a.code = C ∧ 1 ≤ a.urg ∧ a.urg ≤ 5 ∧ CodeOk a.code) := Lib.hid (fun a h => by
                obtain ⟨_, _, h2, h3, h4⟩ := (HI.out a).1 h
                rw [hl] at h4
                obtain ⟨h5, h6⟩ := cut32 hpp (dec_none32 _) h4
                exact ⟨h5.symm, by rw [HUC.out.2, h6]; exact bs_of _, h2.1, h2.2, h3⟩)
              have HLP := Lib.hid hl
              clear hpp hl hU hC
              go_wp2_with fail
              refine (HNN.out _).mono ?_
              rintro e w4 ⟨⟨z, hz, rfl⟩, n3, rfl⟩
              have HZ := Lib.hid hz
              clear hz
              by_cases h1 : 1 ≤ z
              · have dz : decide (z ≥ 1) = true := decide_eq_true h1
                by_cases h2 : CodeOk C
                · rw [tb_true h2] at HCD
                  have HY : Hid (IsAns s.data.toList ⟨T, -1, z, C⟩) := Lib.hid (by
                    rcases HZ.out with ⟨n, hn, hd, rfl⟩ | ⟨_, rfl⟩
                    · refine (HI.out _).2 ⟨⟨HPP.out, HT.out⟩, rfl, ⟨h1, by show (n : Int) ≤ 5; omega⟩, h2, ?_⟩
                      show R.data.toList = dec (n : Int) ++ 32 :: C.data.toList
                      rw [HLP.out, HUC.out.2, bs_data, ← hd]
                      rfl
                    · omega)
                  clear h1 h2
                  go_wp2_with fail
                  refine wp_region_held_drew (S := fun _ => True) (by kernel_rfl) trivial (fun _ => ?_)
                  refine wpAnyH_take (i := 0) (v := .string s) rfl (by kernel_rfl) (by kernel_rfl) (by kernel_rfl) (fun _ _ _ h => h) (Or.inl ⟨by rfl, ?_⟩) (by assumption) ?_
                  · intro w hSw
                    go_simp
                  show wpAnyH _ _ _ _ _ _ _ (Act.put _ (some 81) _) _
                  simp only [Act.put, List.setIfInBounds_toArray, List.set_cons_zero, List.set_cons_succ]
                  refine wpAnyH_take (i := 1) (v := .int .i64 ((j : Int) + 1)) rfl (by kernel_rfl) (by kernel_rfl) (by kernel_rfl) (fun _ _ _ h => h) (Or.inl ⟨by rfl, ?_⟩) (by assumption) ?_
                  · intro w hSw
                    go_simp
                  show wpAnyH _ _ _ _ _ _ _ (Act.put _ (some 82) _) _
                  simp only [Act.put, List.setIfInBounds_toArray, List.set_cons_zero, List.set_cons_succ]
                  refine wpAnyH_take (i := 2) (v := .int .i64 (j : Int)) rfl (by kernel_rfl) (by kernel_rfl) (by kernel_rfl) (fun _ _ _ h => h) (Or.inl ⟨by rfl, ?_⟩) (by assumption) ?_
                  · intro w hSw
                    go_simp
                  show wpAnyH _ _ _ _ _ _ _ (Act.put _ (some 83) _) _
                  simp only [Act.put, List.setIfInBounds_toArray, List.set_cons_zero, List.set_cons_succ]
                  refine wpAnyH_take (i := 3) (v := .string T) rfl (by kernel_rfl) (by kernel_rfl) (by kernel_rfl) (fun _ _ _ h => h) (Or.inl ⟨by rfl, ?_⟩) (by assumption) ?_
                  · intro w hSw
                    go_simp
                  show wpAnyH _ _ _ _ _ _ _ (Act.put _ (some 84) _) _
                  simp only [Act.put, List.setIfInBounds_toArray, List.set_cons_zero, List.set_cons_succ]
                  refine wpAnyH_take (i := 4) (v := .int .i64 z) rfl (by kernel_rfl) (by kernel_rfl) (by kernel_rfl) (fun _ _ _ h => h) (Or.inl ⟨by rfl, ?_⟩) (by assumption) ?_
                  · intro w hSw
                    go_simp
                  show wpAnyH _ _ _ _ _ _ _ (Act.put _ (some 85) _) _
                  simp only [Act.put, List.setIfInBounds_toArray, List.set_cons_zero, List.set_cons_succ]
                  refine wpAnyH_take (i := 5) (v := .string C) rfl (by kernel_rfl) (by kernel_rfl) (by kernel_rfl) (fun _ _ _ h => h) (Or.inl ⟨by rfl, ?_⟩) (by assumption) ?_
                  · intro w hSw
                    go_simp
                  show wpAnyH _ _ _ _ _ _ _ (Act.put _ (some 86) _) _
                  simp only [Act.put, List.setIfInBounds_toArray, List.set_cons_zero, List.set_cons_succ]
                  refine wpAnyH_take (i := 6) (v := .agg #[.string T, .int .i64 (-1), .int .i64 z, .string C]) rfl (by kernel_rfl) (by kernel_rfl) (by kernel_rfl) (fun _ _ _ h => h) (Or.inl ⟨by rfl, ?_⟩) (by assumption) ?_
                  · intro w hSw
                    go_simp
                  show wpAnyH _ _ _ _ _ _ _ (Act.put _ (some 87) _) _
                  simp only [Act.put, List.setIfInBounds_toArray, List.set_cons_zero, List.set_cons_succ]
                  refine wpAnyH_take (i := 7) (v := .bool true) rfl (by kernel_rfl) (by kernel_rfl) (by kernel_rfl) (fun _ _ _ h => h) (Or.inl ⟨by rfl, ?_⟩) (by assumption) ?_
                  · intro w hSw
                    go_simp
                  show wpAnyH _ _ _ _ _ _ _ (Act.put _ (some 88) _) _
                  simp only [Act.put, List.setIfInBounds_toArray, List.set_cons_zero, List.set_cons_succ]
                  refine wpAnyH_take (i := 8) (v := .bool true) rfl (by kernel_rfl) (by kernel_rfl) (by kernel_rfl) (fun _ _ _ h => h) (Or.inl ⟨by rfl, ?_⟩) (by assumption) ?_
                  · intro w hSw
                    go_simp
                  show wpAnyH _ _ _ _ _ _ _ (Act.put _ (some 89) _) _
                  simp only [Act.put, List.setIfInBounds_toArray, List.set_cons_zero, List.set_cons_succ]
                  refine wpAnyH_take (i := 9) (v := .int .i64 z) rfl (by kernel_rfl) (by kernel_rfl) (by kernel_rfl) (fun _ _ _ h => h) (Or.inl ⟨by rfl, ?_⟩) (by assumption) ?_
                  · intro w hSw
                    go_simp
                  show wpAnyH _ _ _ _ _ _ _ (Act.put _ (some 90) _) _
                  simp only [Act.put, List.setIfInBounds_toArray, List.set_cons_zero, List.set_cons_succ]
                  refine wpAnyH_take (i := 10) (v := .bool true) rfl (by kernel_rfl) (by kernel_rfl) (by kernel_rfl) (fun _ _ _ h => h) (Or.inl ⟨by rfl, ?_⟩) (by assumption) ?_
                  · intro w hSw
                    go_simp
                  show wpAnyH _ _ _ _ _ _ _ (Act.put _ (some 91) _) _
                  simp only [Act.put, List.setIfInBounds_toArray, List.set_cons_zero, List.set_cons_succ]
                  refine wpAnyH_take (i := 11) (v := .bool true) rfl (by kernel_rfl) (by kernel_rfl) (by kernel_rfl) (fun _ _ _ h => h) (Or.inl ⟨by rfl, ?_⟩) (by assumption) ?_
                  · intro w hSw
                    go_simp
                  show wpAnyH _ _ _ _ _ _ _ (Act.put _ (some 92) _) _
                  simp only [Act.put, List.setIfInBounds_toArray, List.set_cons_zero, List.set_cons_succ]
                  refine wpAnyH_take (i := 12) (v := .bool true) rfl (by kernel_rfl) (by kernel_rfl) (by kernel_rfl) (fun _ _ _ h => h) (Or.inl ⟨by rfl, ?_⟩) (by assumption) ?_
                  · intro w hSw
                    go_simp
                  show wpAnyH _ _ _ _ _ _ _ (Act.put _ (some 93) _) _
                  simp only [Act.put, List.setIfInBounds_toArray, List.set_cons_zero, List.set_cons_succ]
                  refine wpAnyH_take (i := 13) (v := .string C) rfl (by kernel_rfl) (by kernel_rfl) (by kernel_rfl) (fun _ _ _ h => h) (Or.inl ⟨by rfl, ?_⟩) (by assumption) ?_
                  · intro w hSw
                    go_simp
                  show wpAnyH _ _ _ _ _ _ _ (Act.put _ (some 94) _) _
                  simp only [Act.put, List.setIfInBounds_toArray, List.set_cons_zero, List.set_cons_succ]
                  refine wpAnyH_ready (rs := [14]) (by kernel_rfl) (by simp) ?_
                  refine AllReadyH.cons rfl (fun K hK => ?_) AllReadyH.nil
                  go_simp
                  refine (HCD.out _).mono ?_
                  rintro e w5 ⟨rfl, rfl⟩
                  go_simp
                  refine hK.out _ _ trivial (fun hHeld => ?_)
                  clear hK K
                  refine wpAnyH_take (i := 15) (v := .bool true) rfl (by kernel_rfl) (by kernel_rfl) (by kernel_rfl) (fun _ _ _ h => h) (Or.inl ⟨by rfl, ?_⟩) (by assumption) ?_
                  · intro w hSw
                    go_simp
                  show wpAnyH _ _ _ _ _ _ _ (Act.put _ (some 96) _) _
                  simp only [Act.put, List.setIfInBounds_toArray, List.set_cons_zero, List.set_cons_succ]
                  refine wpAnyH_ready (rs := [16]) (by kernel_rfl) (by simp) ?_
                  refine AllReadyH.cons rfl (fun K hK => ?_) AllReadyH.nil
                  go_simp
                  refine hK.out _ _ trivial (fun hHeld => ?_)
                  clear hK K
                  refine wpAnyH_take (i := 17) (v := .bool true) rfl (by kernel_rfl) (by kernel_rfl) (by kernel_rfl) (fun _ _ _ h => h) (Or.inl ⟨by rfl, ?_⟩) (by assumption) ?_
                  · intro w hSw
                    go_simp
                  show wpAnyH _ _ _ _ _ _ _ (Act.put _ (some 3) _) _
                  simp only [Act.put, List.setIfInBounds_toArray, List.set_cons_zero, List.set_cons_succ]
                  refine wpAnyH_done (by kernel_rfl) ?_ _
                  go_wp2_with fail
                  refine bodyPost_ret (v := .tuple #[ansV ⟨T, -1, z, C⟩, .bool true]) (by simp [results, Tryz.results55, go_sem, q0, q1, q2, q3, ansV]) rfl ?_
                  exact ⟨.inl ⟨_, HY.out, rfl⟩, below_set4 (by repeat (first | exact HB1.out | refine below_drewN' ?_ _ | refine Below.drew ?_)) (Nat.le_refl _) _ _ _ _⟩
                · rw [tb_false h2] at HCD
                  have HN : Hid (∀ a, ¬ IsAns s.data.toList a) := Lib.hid (fun a h => h2 (by
                    obtain ⟨_, h3, _, _, h4⟩ := HQ.out a h
                    rw [← h3]
                    exact h4))
                  clear h1 h2
                  go_wp2_with fail
                  refine wp_region_held_drew (S := fun _ => True) (by kernel_rfl) trivial (fun _ => ?_)
                  refine wpAnyH_take (i := 0) (v := .string s) rfl (by kernel_rfl) (by kernel_rfl) (by kernel_rfl) (fun _ _ _ h => h) (Or.inl ⟨by rfl, ?_⟩) (by assumption) ?_
                  · intro w hSw
                    go_simp
                  show wpAnyH _ _ _ _ _ _ _ (Act.put _ (some 81) _) _
                  simp only [Act.put, List.setIfInBounds_toArray, List.set_cons_zero, List.set_cons_succ]
                  refine wpAnyH_take (i := 1) (v := .int .i64 ((j : Int) + 1)) rfl (by kernel_rfl) (by kernel_rfl) (by kernel_rfl) (fun _ _ _ h => h) (Or.inl ⟨by rfl, ?_⟩) (by assumption) ?_
                  · intro w hSw
                    go_simp
                  show wpAnyH _ _ _ _ _ _ _ (Act.put _ (some 82) _) _
                  simp only [Act.put, List.setIfInBounds_toArray, List.set_cons_zero, List.set_cons_succ]
                  refine wpAnyH_take (i := 2) (v := .int .i64 (j : Int)) rfl (by kernel_rfl) (by kernel_rfl) (by kernel_rfl) (fun _ _ _ h => h) (Or.inl ⟨by rfl, ?_⟩) (by assumption) ?_
                  · intro w hSw
                    go_simp
                  show wpAnyH _ _ _ _ _ _ _ (Act.put _ (some 83) _) _
                  simp only [Act.put, List.setIfInBounds_toArray, List.set_cons_zero, List.set_cons_succ]
                  refine wpAnyH_take (i := 3) (v := .string T) rfl (by kernel_rfl) (by kernel_rfl) (by kernel_rfl) (fun _ _ _ h => h) (Or.inl ⟨by rfl, ?_⟩) (by assumption) ?_
                  · intro w hSw
                    go_simp
                  show wpAnyH _ _ _ _ _ _ _ (Act.put _ (some 84) _) _
                  simp only [Act.put, List.setIfInBounds_toArray, List.set_cons_zero, List.set_cons_succ]
                  refine wpAnyH_take (i := 4) (v := .int .i64 z) rfl (by kernel_rfl) (by kernel_rfl) (by kernel_rfl) (fun _ _ _ h => h) (Or.inl ⟨by rfl, ?_⟩) (by assumption) ?_
                  · intro w hSw
                    go_simp
                  show wpAnyH _ _ _ _ _ _ _ (Act.put _ (some 85) _) _
                  simp only [Act.put, List.setIfInBounds_toArray, List.set_cons_zero, List.set_cons_succ]
                  refine wpAnyH_take (i := 5) (v := .string C) rfl (by kernel_rfl) (by kernel_rfl) (by kernel_rfl) (fun _ _ _ h => h) (Or.inl ⟨by rfl, ?_⟩) (by assumption) ?_
                  · intro w hSw
                    go_simp
                  show wpAnyH _ _ _ _ _ _ _ (Act.put _ (some 86) _) _
                  simp only [Act.put, List.setIfInBounds_toArray, List.set_cons_zero, List.set_cons_succ]
                  refine wpAnyH_take (i := 6) (v := .agg #[.string T, .int .i64 (-1), .int .i64 z, .string C]) rfl (by kernel_rfl) (by kernel_rfl) (by kernel_rfl) (fun _ _ _ h => h) (Or.inl ⟨by rfl, ?_⟩) (by assumption) ?_
                  · intro w hSw
                    go_simp
                  show wpAnyH _ _ _ _ _ _ _ (Act.put _ (some 87) _) _
                  simp only [Act.put, List.setIfInBounds_toArray, List.set_cons_zero, List.set_cons_succ]
                  refine wpAnyH_take (i := 7) (v := .bool true) rfl (by kernel_rfl) (by kernel_rfl) (by kernel_rfl) (fun _ _ _ h => h) (Or.inl ⟨by rfl, ?_⟩) (by assumption) ?_
                  · intro w hSw
                    go_simp
                  show wpAnyH _ _ _ _ _ _ _ (Act.put _ (some 88) _) _
                  simp only [Act.put, List.setIfInBounds_toArray, List.set_cons_zero, List.set_cons_succ]
                  refine wpAnyH_take (i := 8) (v := .bool true) rfl (by kernel_rfl) (by kernel_rfl) (by kernel_rfl) (fun _ _ _ h => h) (Or.inl ⟨by rfl, ?_⟩) (by assumption) ?_
                  · intro w hSw
                    go_simp
                  show wpAnyH _ _ _ _ _ _ _ (Act.put _ (some 89) _) _
                  simp only [Act.put, List.setIfInBounds_toArray, List.set_cons_zero, List.set_cons_succ]
                  refine wpAnyH_take (i := 9) (v := .int .i64 z) rfl (by kernel_rfl) (by kernel_rfl) (by kernel_rfl) (fun _ _ _ h => h) (Or.inl ⟨by rfl, ?_⟩) (by assumption) ?_
                  · intro w hSw
                    go_simp
                  show wpAnyH _ _ _ _ _ _ _ (Act.put _ (some 90) _) _
                  simp only [Act.put, List.setIfInBounds_toArray, List.set_cons_zero, List.set_cons_succ]
                  refine wpAnyH_take (i := 10) (v := .bool true) rfl (by kernel_rfl) (by kernel_rfl) (by kernel_rfl) (fun _ _ _ h => h) (Or.inl ⟨by rfl, ?_⟩) (by assumption) ?_
                  · intro w hSw
                    go_simp
                  show wpAnyH _ _ _ _ _ _ _ (Act.put _ (some 91) _) _
                  simp only [Act.put, List.setIfInBounds_toArray, List.set_cons_zero, List.set_cons_succ]
                  refine wpAnyH_take (i := 11) (v := .bool true) rfl (by kernel_rfl) (by kernel_rfl) (by kernel_rfl) (fun _ _ _ h => h) (Or.inl ⟨by rfl, ?_⟩) (by assumption) ?_
                  · intro w hSw
                    go_simp
                  show wpAnyH _ _ _ _ _ _ _ (Act.put _ (some 92) _) _
                  simp only [Act.put, List.setIfInBounds_toArray, List.set_cons_zero, List.set_cons_succ]
                  refine wpAnyH_take (i := 12) (v := .bool true) rfl (by kernel_rfl) (by kernel_rfl) (by kernel_rfl) (fun _ _ _ h => h) (Or.inl ⟨by rfl, ?_⟩) (by assumption) ?_
                  · intro w hSw
                    go_simp
                  show wpAnyH _ _ _ _ _ _ _ (Act.put _ (some 93) _) _
                  simp only [Act.put, List.setIfInBounds_toArray, List.set_cons_zero, List.set_cons_succ]
                  refine wpAnyH_take (i := 13) (v := .string C) rfl (by kernel_rfl) (by kernel_rfl) (by kernel_rfl) (fun _ _ _ h => h) (Or.inl ⟨by rfl, ?_⟩) (by assumption) ?_
                  · intro w hSw
                    go_simp
                  show wpAnyH _ _ _ _ _ _ _ (Act.put _ (some 94) _) _
                  simp only [Act.put, List.setIfInBounds_toArray, List.set_cons_zero, List.set_cons_succ]
                  refine wpAnyH_ready (rs := [14]) (by kernel_rfl) (by simp) ?_
                  refine AllReadyH.cons rfl (fun K hK => ?_) AllReadyH.nil
                  go_simp
                  refine (HCD.out _).mono ?_
                  rintro e w5 ⟨rfl, rfl⟩
                  go_simp
                  refine hK.out _ _ trivial (fun hHeld => ?_)
                  clear hK K
                  refine wpAnyH_take (i := 15) (v := .bool false) rfl (by kernel_rfl) (by kernel_rfl) (by kernel_rfl) (fun _ _ _ h => h) (Or.inl ⟨by rfl, ?_⟩) (by assumption) ?_
                  · intro w hSw
                    go_simp
                  show wpAnyH _ _ _ _ _ _ _ (Act.put _ (some 96) _) _
                  simp only [Act.put, List.setIfInBounds_toArray, List.set_cons_zero, List.set_cons_succ]
                  refine wpAnyH_ready (rs := [16]) (by kernel_rfl) (by simp) ?_
                  refine AllReadyH.cons rfl (fun K hK => ?_) AllReadyH.nil
                  go_simp
                  refine hK.out _ _ trivial (fun hHeld => ?_)
                  clear hK K
                  refine wpAnyH_take (i := 17) (v := .bool false) rfl (by kernel_rfl) (by kernel_rfl) (by kernel_rfl) (fun _ _ _ h => h) (Or.inl ⟨by rfl, ?_⟩) (by assumption) ?_
                  · intro w hSw
                    go_simp
                  show wpAnyH _ _ _ _ _ _ _ (Act.put _ (some 3) _) _
                  simp only [Act.put, List.setIfInBounds_toArray, List.set_cons_zero, List.set_cons_succ]
                  refine wpAnyH_done (by kernel_rfl) ?_ _
                  go_wp2_with fail
                  refine bodyPost_ret (v := .tuple #[ansV ⟨T, -1, z, C⟩, .bool false]) (by simp [results, Tryz.results55, go_sem, q0, q1, q2, q3, ansV]) rfl ?_
                  exact ⟨.inr ⟨HN.out, _, rfl⟩, below_set4 (by repeat (first | exact HB1.out | refine below_drewN' ?_ _ | refine Below.drew ?_)) (Nat.le_refl _) _ _ _ _⟩
              · have dz : decide (z ≥ 1) = false := decide_eq_false h1
                have HN : Hid (∀ a, ¬ IsAns s.data.toList a) := Lib.hid (fun a h => by
                  obtain ⟨h2, _, h3, h4, _⟩ := HQ.out a h
                  rcases HZ.out with ⟨n, hn, hd, rfl⟩ | ⟨hno, _⟩
                  · have h5 : dec a.urg = Lib.decDigits a.urg.toNat := rfl
                    rw [h5, ← hd] at h2
                    have := dec_inj h2
                    omega
                  · exact hno a.urg.toNat (by omega) h2)
                clear h1
                go_wp2_with fail
                refine wp_region_held_drew (S := fun _ => True) (by kernel_rfl) trivial (fun _ => ?_)
                refine wpAnyH_take (i := 0) (v := .string s) rfl (by kernel_rfl) (by kernel_rfl) (by kernel_rfl) (fun _ _ _ h => h) (Or.inl ⟨by rfl, ?_⟩) (by assumption) ?_
                · intro w hSw
                  go_simp
                show wpAnyH _ _ _ _ _ _ _ (Act.put _ (some 81) _) _
                simp only [Act.put, List.setIfInBounds_toArray, List.set_cons_zero, List.set_cons_succ]
                refine wpAnyH_take (i := 1) (v := .int .i64 ((j : Int) + 1)) rfl (by kernel_rfl) (by kernel_rfl) (by kernel_rfl) (fun _ _ _ h => h) (Or.inl ⟨by rfl, ?_⟩) (by assumption) ?_
                · intro w hSw
                  go_simp
                show wpAnyH _ _ _ _ _ _ _ (Act.put _ (some 82) _) _
                simp only [Act.put, List.setIfInBounds_toArray, List.set_cons_zero, List.set_cons_succ]
                refine wpAnyH_take (i := 2) (v := .int .i64 (j : Int)) rfl (by kernel_rfl) (by kernel_rfl) (by kernel_rfl) (fun _ _ _ h => h) (Or.inl ⟨by rfl, ?_⟩) (by assumption) ?_
                · intro w hSw
                  go_simp
                show wpAnyH _ _ _ _ _ _ _ (Act.put _ (some 83) _) _
                simp only [Act.put, List.setIfInBounds_toArray, List.set_cons_zero, List.set_cons_succ]
                refine wpAnyH_take (i := 3) (v := .string T) rfl (by kernel_rfl) (by kernel_rfl) (by kernel_rfl) (fun _ _ _ h => h) (Or.inl ⟨by rfl, ?_⟩) (by assumption) ?_
                · intro w hSw
                  go_simp
                show wpAnyH _ _ _ _ _ _ _ (Act.put _ (some 84) _) _
                simp only [Act.put, List.setIfInBounds_toArray, List.set_cons_zero, List.set_cons_succ]
                refine wpAnyH_take (i := 4) (v := .int .i64 z) rfl (by kernel_rfl) (by kernel_rfl) (by kernel_rfl) (fun _ _ _ h => h) (Or.inl ⟨by rfl, ?_⟩) (by assumption) ?_
                · intro w hSw
                  go_simp
                show wpAnyH _ _ _ _ _ _ _ (Act.put _ (some 85) _) _
                simp only [Act.put, List.setIfInBounds_toArray, List.set_cons_zero, List.set_cons_succ]
                refine wpAnyH_take (i := 5) (v := .string C) rfl (by kernel_rfl) (by kernel_rfl) (by kernel_rfl) (fun _ _ _ h => h) (Or.inl ⟨by rfl, ?_⟩) (by assumption) ?_
                · intro w hSw
                  go_simp
                show wpAnyH _ _ _ _ _ _ _ (Act.put _ (some 86) _) _
                simp only [Act.put, List.setIfInBounds_toArray, List.set_cons_zero, List.set_cons_succ]
                refine wpAnyH_take (i := 6) (v := .agg #[.string T, .int .i64 (-1), .int .i64 z, .string C]) rfl (by kernel_rfl) (by kernel_rfl) (by kernel_rfl) (fun _ _ _ h => h) (Or.inl ⟨by rfl, ?_⟩) (by assumption) ?_
                · intro w hSw
                  go_simp
                show wpAnyH _ _ _ _ _ _ _ (Act.put _ (some 87) _) _
                simp only [Act.put, List.setIfInBounds_toArray, List.set_cons_zero, List.set_cons_succ]
                refine wpAnyH_take (i := 7) (v := .bool true) rfl (by kernel_rfl) (by kernel_rfl) (by kernel_rfl) (fun _ _ _ h => h) (Or.inl ⟨by rfl, ?_⟩) (by assumption) ?_
                · intro w hSw
                  go_simp
                show wpAnyH _ _ _ _ _ _ _ (Act.put _ (some 88) _) _
                simp only [Act.put, List.setIfInBounds_toArray, List.set_cons_zero, List.set_cons_succ]
                refine wpAnyH_take (i := 8) (v := .bool true) rfl (by kernel_rfl) (by kernel_rfl) (by kernel_rfl) (fun _ _ _ h => h) (Or.inl ⟨by rfl, ?_⟩) (by assumption) ?_
                · intro w hSw
                  go_simp
                show wpAnyH _ _ _ _ _ _ _ (Act.put _ (some 89) _) _
                simp only [Act.put, List.setIfInBounds_toArray, List.set_cons_zero, List.set_cons_succ]
                refine wpAnyH_take (i := 9) (v := .int .i64 z) rfl (by kernel_rfl) (by kernel_rfl) (by kernel_rfl) (fun _ _ _ h => h) (Or.inl ⟨by rfl, ?_⟩) (by assumption) ?_
                · intro w hSw
                  go_simp
                show wpAnyH _ _ _ _ _ _ _ (Act.put _ (some 90) _) _
                simp only [Act.put, List.setIfInBounds_toArray, List.set_cons_zero, List.set_cons_succ]
                refine wpAnyH_take (i := 10) (v := .bool false) rfl (by kernel_rfl) (by kernel_rfl) (by kernel_rfl) (fun _ _ _ h => h) (Or.inl ⟨by rfl, ?_⟩) (by assumption) ?_
                · intro w hSw
                  go_simp
                show wpAnyH _ _ _ _ _ _ _ (Act.put _ (some 91) _) _
                simp only [Act.put, List.setIfInBounds_toArray, List.set_cons_zero, List.set_cons_succ]
                refine wpAnyH_take (i := 11) (v := .bool false) rfl (by kernel_rfl) (by kernel_rfl) (by kernel_rfl) (fun _ _ _ h => h) (Or.inl ⟨by rfl, ?_⟩) (by assumption) ?_
                · intro w hSw
                  go_simp
                show wpAnyH _ _ _ _ _ _ _ (Act.put _ (some 92) _) _
                simp only [Act.put, List.setIfInBounds_toArray, List.set_cons_zero, List.set_cons_succ]
                refine wpAnyH_take (i := 12) (v := .bool false) rfl (by kernel_rfl) (by kernel_rfl) (by kernel_rfl) (fun _ _ _ h => h) (Or.inl ⟨by rfl, ?_⟩) (by assumption) ?_
                · intro w hSw
                  go_simp
                show wpAnyH _ _ _ _ _ _ _ (Act.put _ (some 93) _) _
                simp only [Act.put, List.setIfInBounds_toArray, List.set_cons_zero, List.set_cons_succ]
                refine wpAnyH_take (i := 13) (v := undef) rfl (by kernel_rfl) (by kernel_rfl) (by kernel_rfl) (fun _ _ _ h => h) (Or.inr ⟨by rfl, rfl⟩) (by assumption) ?_
                show wpAnyH _ _ _ _ _ _ _ (Act.put _ (some 94) _) _
                simp only [Act.put, List.setIfInBounds_toArray, List.set_cons_zero, List.set_cons_succ]
                refine wpAnyH_ready (rs := [14]) (by kernel_rfl) (by simp) ?_
                refine AllReadyH.cons rfl (fun K hK => ?_) AllReadyH.nil
                go_simp
                refine hK.out _ _ trivial (fun hHeld => ?_)
                clear hK K
                refine wpAnyH_take (i := 15) (v := .bool false) rfl (by kernel_rfl) (by kernel_rfl) (by kernel_rfl) (fun _ _ _ h => h) (Or.inl ⟨by rfl, ?_⟩) (by assumption) ?_
                · intro w hSw
                  go_simp
                show wpAnyH _ _ _ _ _ _ _ (Act.put _ (some 96) _) _
                simp only [Act.put, List.setIfInBounds_toArray, List.set_cons_zero, List.set_cons_succ]
                refine wpAnyH_ready (rs := [16]) (by kernel_rfl) (by simp) ?_
                refine AllReadyH.cons rfl (fun K hK => ?_) AllReadyH.nil
                go_simp
                refine hK.out _ _ trivial (fun hHeld => ?_)
                clear hK K
                refine wpAnyH_take (i := 17) (v := .bool false) rfl (by kernel_rfl) (by kernel_rfl) (by kernel_rfl) (fun _ _ _ h => h) (Or.inl ⟨by rfl, ?_⟩) (by assumption) ?_
                · intro w hSw
                  go_simp
                show wpAnyH _ _ _ _ _ _ _ (Act.put _ (some 3) _) _
                simp only [Act.put, List.setIfInBounds_toArray, List.set_cons_zero, List.set_cons_succ]
                refine wpAnyH_done (by kernel_rfl) ?_ _
                go_wp2_with fail
                refine bodyPost_ret (v := .tuple #[ansV ⟨T, -1, z, C⟩, .bool false]) (by simp [results, Tryz.results55, go_sem, q0, q1, q2, q3, ansV]) rfl ?_
                exact ⟨.inr ⟨HN.out, _, rfl⟩, below_set4 (by repeat (first | exact HB1.out | refine below_drewN' ?_ _ | refine Below.drew ?_)) (Nat.le_refl _) _ _ _ _⟩
            · have HNN := Lib.hid (HNB.out R (by omega) 5 (by omega))
              have HN : Hid (∀ a, ¬ IsAns s.data.toList a) := Lib.hid (fun a h => by
                obtain ⟨_, _, _, _, h4⟩ := (HI.out a).1 h
                exact hno (by rw [h4]; simp))
              clear hno
              go_wp2_with fail
              refine (HNN.out _).mono ?_
              rintro e w4 ⟨⟨z, hz, rfl⟩, n3, rfl⟩
              clear hz
              go_wp2_with fail
              refine wp_region_held_drew (S := fun _ => True) (by kernel_rfl) trivial (fun _ => ?_)
              refine wpAnyH_take (i := 0) (v := .string s) rfl (by kernel_rfl) (by kernel_rfl) (by kernel_rfl) (fun _ _ _ h => h) (Or.inl ⟨by rfl, ?_⟩) (by assumption) ?_
              · intro w hSw
                go_simp
              show wpAnyH _ _ _ _ _ _ _ (Act.put _ (some 81) _) _
              simp only [Act.put, List.setIfInBounds_toArray, List.set_cons_zero, List.set_cons_succ]
              refine wpAnyH_take (i := 1) (v := .int .i64 ((j : Int) + 1)) rfl (by kernel_rfl) (by kernel_rfl) (by kernel_rfl) (fun _ _ _ h => h) (Or.inl ⟨by rfl, ?_⟩) (by assumption) ?_
              · intro w hSw
                go_simp
              show wpAnyH _ _ _ _ _ _ _ (Act.put _ (some 82) _) _
              simp only [Act.put, List.setIfInBounds_toArray, List.set_cons_zero, List.set_cons_succ]
              refine wpAnyH_take (i := 2) (v := .int .i64 (j : Int)) rfl (by kernel_rfl) (by kernel_rfl) (by kernel_rfl) (fun _ _ _ h => h) (Or.inl ⟨by rfl, ?_⟩) (by assumption) ?_
              · intro w hSw
                go_simp
              show wpAnyH _ _ _ _ _ _ _ (Act.put _ (some 83) _) _
              simp only [Act.put, List.setIfInBounds_toArray, List.set_cons_zero, List.set_cons_succ]
              refine wpAnyH_take (i := 3) (v := .string T) rfl (by kernel_rfl) (by kernel_rfl) (by kernel_rfl) (fun _ _ _ h => h) (Or.inl ⟨by rfl, ?_⟩) (by assumption) ?_
              · intro w hSw
                go_simp
              show wpAnyH _ _ _ _ _ _ _ (Act.put _ (some 84) _) _
              simp only [Act.put, List.setIfInBounds_toArray, List.set_cons_zero, List.set_cons_succ]
              refine wpAnyH_take (i := 4) (v := .int .i64 z) rfl (by kernel_rfl) (by kernel_rfl) (by kernel_rfl) (fun _ _ _ h => h) (Or.inl ⟨by rfl, ?_⟩) (by assumption) ?_
              · intro w hSw
                go_simp
              show wpAnyH _ _ _ _ _ _ _ (Act.put _ (some 85) _) _
              simp only [Act.put, List.setIfInBounds_toArray, List.set_cons_zero, List.set_cons_succ]
              refine wpAnyH_take (i := 5) (v := .string ⟨#[]⟩) rfl (by kernel_rfl) (by kernel_rfl) (by kernel_rfl) (fun _ _ _ h => h) (Or.inl ⟨by rfl, ?_⟩) (by assumption) ?_
              · intro w hSw
                go_simp
              show wpAnyH _ _ _ _ _ _ _ (Act.put _ (some 86) _) _
              simp only [Act.put, List.setIfInBounds_toArray, List.set_cons_zero, List.set_cons_succ]
              refine wpAnyH_take (i := 6) (v := .agg #[.string T, .int .i64 (-1), .int .i64 z, .string ⟨#[]⟩]) rfl (by kernel_rfl) (by kernel_rfl) (by kernel_rfl) (fun _ _ _ h => h) (Or.inl ⟨by rfl, ?_⟩) (by assumption) ?_
              · intro w hSw
                go_simp
              show wpAnyH _ _ _ _ _ _ _ (Act.put _ (some 87) _) _
              simp only [Act.put, List.setIfInBounds_toArray, List.set_cons_zero, List.set_cons_succ]
              refine wpAnyH_take (i := 7) (v := .bool false) rfl (by kernel_rfl) (by kernel_rfl) (by kernel_rfl) (fun _ _ _ h => h) (Or.inl ⟨by rfl, ?_⟩) (by assumption) ?_
              · intro w hSw
                go_simp
              show wpAnyH _ _ _ _ _ _ _ (Act.put _ (some 88) _) _
              simp only [Act.put, List.setIfInBounds_toArray, List.set_cons_zero, List.set_cons_succ]
              refine wpAnyH_take (i := 8) (v := .bool false) rfl (by kernel_rfl) (by kernel_rfl) (by kernel_rfl) (fun _ _ _ h => h) (Or.inl ⟨by rfl, ?_⟩) (by assumption) ?_
              · intro w hSw
                go_simp
              show wpAnyH _ _ _ _ _ _ _ (Act.put _ (some 89) _) _
              simp only [Act.put, List.setIfInBounds_toArray, List.set_cons_zero, List.set_cons_succ]
              refine wpAnyH_take (i := 9) (v := undef) rfl (by kernel_rfl) (by kernel_rfl) (by kernel_rfl) (fun _ _ _ h => h) (Or.inr ⟨by rfl, rfl⟩) (by assumption) ?_
              show wpAnyH _ _ _ _ _ _ _ (Act.put _ (some 90) _) _
              simp only [Act.put, List.setIfInBounds_toArray, List.set_cons_zero, List.set_cons_succ]
              refine wpAnyH_take (i := 10) (v := undef) rfl (by kernel_rfl) (by kernel_rfl) (by kernel_rfl) (fun _ _ _ h => h) (Or.inr ⟨by rfl, rfl⟩) (by assumption) ?_
              show wpAnyH _ _ _ _ _ _ _ (Act.put _ (some 91) _) _
              simp only [Act.put, List.setIfInBounds_toArray, List.set_cons_zero, List.set_cons_succ]
              refine wpAnyH_take (i := 11) (v := .bool false) rfl (by kernel_rfl) (by kernel_rfl) (by kernel_rfl) (fun _ _ _ h => h) (Or.inl ⟨by rfl, ?_⟩) (by assumption) ?_
              · intro w hSw
                go_simp
              show wpAnyH _ _ _ _ _ _ _ (Act.put _ (some 92) _) _
              simp only [Act.put, List.setIfInBounds_toArray, List.set_cons_zero, List.set_cons_succ]
              refine wpAnyH_take (i := 12) (v := .bool false) rfl (by kernel_rfl) (by kernel_rfl) (by kernel_rfl) (fun _ _ _ h => h) (Or.inl ⟨by rfl, ?_⟩) (by assumption) ?_
              · intro w hSw
                go_simp
              show wpAnyH _ _ _ _ _ _ _ (Act.put _ (some 93) _) _
              simp only [Act.put, List.setIfInBounds_toArray, List.set_cons_zero, List.set_cons_succ]
              refine wpAnyH_take (i := 13) (v := undef) rfl (by kernel_rfl) (by kernel_rfl) (by kernel_rfl) (fun _ _ _ h => h) (Or.inr ⟨by rfl, rfl⟩) (by assumption) ?_
              show wpAnyH _ _ _ _ _ _ _ (Act.put _ (some 94) _) _
              simp only [Act.put, List.setIfInBounds_toArray, List.set_cons_zero, List.set_cons_succ]
              refine wpAnyH_ready (rs := [14]) (by kernel_rfl) (by simp) ?_
              refine AllReadyH.cons rfl (fun K hK => ?_) AllReadyH.nil
              go_simp
              refine hK.out _ _ trivial (fun hHeld => ?_)
              clear hK K
              refine wpAnyH_take (i := 15) (v := .bool false) rfl (by kernel_rfl) (by kernel_rfl) (by kernel_rfl) (fun _ _ _ h => h) (Or.inl ⟨by rfl, ?_⟩) (by assumption) ?_
              · intro w hSw
                go_simp
              show wpAnyH _ _ _ _ _ _ _ (Act.put _ (some 96) _) _
              simp only [Act.put, List.setIfInBounds_toArray, List.set_cons_zero, List.set_cons_succ]
              refine wpAnyH_ready (rs := [16]) (by kernel_rfl) (by simp) ?_
              refine AllReadyH.cons rfl (fun K hK => ?_) AllReadyH.nil
              go_simp
              refine hK.out _ _ trivial (fun hHeld => ?_)
              clear hK K
              refine wpAnyH_take (i := 17) (v := .bool false) rfl (by kernel_rfl) (by kernel_rfl) (by kernel_rfl) (fun _ _ _ h => h) (Or.inl ⟨by rfl, ?_⟩) (by assumption) ?_
              · intro w hSw
                go_simp
              show wpAnyH _ _ _ _ _ _ _ (Act.put _ (some 3) _) _
              simp only [Act.put, List.setIfInBounds_toArray, List.set_cons_zero, List.set_cons_succ]
              refine wpAnyH_done (by kernel_rfl) ?_ _
              go_wp2_with fail
              refine bodyPost_ret (v := .tuple #[ansV ⟨T, -1, z, ⟨#[]⟩⟩, .bool false]) (by simp [results, Tryz.results55, go_sem, q0, q1, q2, q3, ansV]) rfl ?_
              exact ⟨.inr ⟨HN.out, _, rfl⟩, below_set4 (by repeat (first | exact HB1.out | refine below_drewN' ?_ _ | refine Below.drew ?_)) (Nat.le_refl _) _ _ _ _⟩
        · rw [tb_false hp] at HPH
          have HN : Hid (∀ a, ¬ IsAns s.data.toList a) := Lib.hid (fun a h => hp (by
            have h1 := (ans_cut HS.out.1 h).1
            rw [← HT.out] at h1
            rw [← toList_inj h1]
            exact h.2.1))
          clear hp hc
          go_wp2_with fail
          refine (HPH.out _).mono ?_
          rintro e w' ⟨rfl, rfl⟩
          go_wp2_with fail
          refine bodyPost_ret (v := .tuple #[ansV ⟨⟨#[]⟩, 0, 0, ⟨#[]⟩⟩, .bool false]) (by simp [results, Tryz.results55, go_sem, q0, q1, q2, q3, ansV]) rfl ?_
          exact ⟨.inr ⟨HN.out, _, rfl⟩, below_set4 (by repeat (first | exact HB1.out | refine below_drewN' ?_ _ | refine Below.drew ?_)) (Nat.le_refl _) _ _ _ _⟩
end Go.Proofs.YtbbklideciappaaGreatDoor
