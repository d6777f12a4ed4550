/-
  protocol.parseAnswer.
-/
import Derived.Test.YtbbklideciappaaGreatDoorPqL
namespace Go.Proofs.YtbbklideciappaaGreatDoor
open Go.RowKit

def ansV (a : Ans) : Value := .agg #[.string a.text, .int .i64 a.next, .int .i64 a.urg, .string a.code]
/-- what parseAnswer returns. -/
def RetAn (x : List UInt8) (w : World) (e : Ending) (w' : World) : Prop :=
  ((∃ a, IsAns x a ∧ e = .returned (.tuple #[ansV a, .bool true])) ∨ ((∀ a, ¬ IsAns x a) ∧ ∃ a, e = .returned (.tuple #[ansV a, .bool false]))) ∧ Below w.heap.size w w'
theorem take_ext (s : ByteArray) (i : Nat) : (s.extract 0 i).data.toList = s.data.toList.take i := by simp
theorem drop_ext (s : ByteArray) (i : Nat) : (s.extract i s.size).data.toList = s.data.toList.drop i := by
  simp
  exact List.take_of_length_le (by simp)
set_option maxRecDepth 100000 in
set_option maxHeartbeats 4000000 in
theorem parseAnswer_any (s : ByteArray) (hs : s.size ≤ 1000000000) (w : World) (hr : Ready w) : Calls Tryz.prog 52 #[.string s] w (RetAn s.data.toList w) := by
  have HL1 := Lib.hid (fun X => Tryz.strings_LastIndex s ⟨#[32, 62, 32]⟩ (by omega) X)
  have HL2 := Lib.hid (fun X => Tryz.strings_LastIndex s ⟨#[32, 61, 32]⟩ (by omega) X)
  have hm := last_max s.data.toList
  obtain ⟨a1, ha1⟩ : ∃ a, a = Lib.lastIndex s.data.toList (⟨#[32, 62, 32]⟩ : ByteArray).data.toList := ⟨_, rfl⟩
  obtain ⟨a2, ha2⟩ : ∃ a, a = Lib.lastIndex s.data.toList (⟨#[32, 61, 32]⟩ : ByteArray).data.toList := ⟨_, rfl⟩
  have ha1' : a1 = Lib.lastIndex s.data.toList [32, 62, 32] := ha1
  have ha2' : a2 = Lib.lastIndex s.data.toList [32, 61, 32] := ha2
  rw [← ha1] at HL1
  rw [← ha2] at HL2
  rw [← ha1', ← ha2'] at hm
  clear ha1 ha2 ha1' ha2'
  have hz := lt_new w (.cells #[.string ⟨#[]⟩, .int .i64 0, .int .i64 0, .string ⟨#[]⟩] 45)
  have hb0 := below_new w (.cells #[.string ⟨#[]⟩, .int .i64 0, .int .i64 0, .string ⟨#[]⟩] 45)
  obtain ⟨q0, q1, q2, q3⟩ := fresh4 w (.string ⟨#[]⟩) (.int .i64 0) (.int .i64 0) (.string ⟨#[]⟩) 45
  have k0 := free_new w #[.string ⟨#[]⟩, .int .i64 0, .int .i64 0, .string ⟨#[]⟩] 45
  obtain ⟨W1, hW1⟩ : ∃ W1, W1 = w.alloc (.cells #[.string ⟨#[]⟩, .int .i64 0, .int .i64 0, .string ⟨#[]⟩] 45) := ⟨_, rfl⟩
  rw [← hW1] at q0 q1 q2 q3 hz hb0 k0
  have l0 := k0 0
  have l1 := k0 1
  have l2 := k0 2
  have l3 := k0 3
  have HR1 := Lib.hid (hr.below hb0)
  have HB1 := Lib.hid hb0
  clear k0 hb0 hr
  rcases hm with ⟨hmx, hno⟩ | ⟨i, hi, hmx, hsep⟩
  · have HN : Hid (∀ a, ¬ IsAns s.data.toList a) := Lib.hid (ans_none hno)
    clear hno
    go_enter Tryz.func52, Tryz.ntmps52
    go_wp2_with fail
    rw [← hW1]
    clear hW1
    refine (HL1.out _).mono ?_
    rintro e w' ⟨rfl, rfl⟩
    go_wp2_with fail
    refine (HL2.out _).mono ?_
    rintro e w' ⟨rfl, rfl⟩
    go_wp2_with fail
    refine bodyPost_ret (v := .tuple #[ansV ⟨⟨#[]⟩, 0, 0, ⟨#[]⟩⟩, .bool false]) (by simp [results, Tryz.results52, go_sem, q0, q1, q2, q3, ansV]) rfl ?_
    exact ⟨.inr ⟨HN.out, ⟨⟨#[]⟩, 0, 0, ⟨#[]⟩⟩, rfl⟩, (((HB1.out.setCell (p := ⟨w.heap.size, 0, none⟩) (Nat.le_refl _) _).setCell (p := ⟨w.heap.size, 1, none⟩) (Nat.le_refl _) _).setCell (p := ⟨w.heap.size, 2, none⟩) (Nat.le_refl _) _).setCell (p := ⟨w.heap.size, 3, none⟩) (Nat.le_refl _) _⟩
  · obtain ⟨c, hc, _, hci, hdr⟩ := sep_at hsep.1
    rw [show s.data.toList.length = s.size by simp] at hi
    have hi1 : i + 1 < s.size := by omega
    have hcs : s[i + 1] = c := by
      have h1 := byte_at (s := s) (k := i + 1) (by omega)
      rw [hci] at h1
      exact (Option.some.inj h1).symm
    have hi1' : (i : Int) + 1 < (s.size : Int) := by omega
    have hi3 : (i : Int) + 3 ≤ (s.size : Int) := by omega
    have hi0 : (i : Int) ≤ (s.size : Int) := by omega
    obtain ⟨T, hT⟩ : ∃ T, s.extract 0 i = T := ⟨_, rfl⟩
    obtain ⟨R, hR⟩ : ∃ R, s.extract (i + 3) s.size = R := ⟨_, rfl⟩
    have HT := Lib.hid (show T.data.toList = s.data.toList.take i by rw [← hT]; exact take_ext s i)
    have hRd : R.data.toList = s.data.toList.drop (i + 3) := by rw [← hR]; exact drop_ext s (i + 3)
    have hRs : R.size ≤ 1000000000 := by rw [← hR]; simp; omega
    rw [← hRd] at hdr
    have HS := Lib.hid (And.intro hsep (And.intro hdr hRd))
    have HPH := Lib.hid (fun X => isPhrase_any T 100 (by omega) 100 rfl X)
    clear hsep hdr hRd hci
    by_cases hp : PhraseOk T 100
    · rw [tb_true hp] at HPH
      have HPP := Lib.hid hp
      clear hp
      have HNB := Lib.hid (fun X hX => number_any R (by omega) X hX)
      rcases hc with hc | hc
      · have d62 : ((s[i + 1].toNat : Int) == 62) = true := by rw [hcs, hc]; rfl
        subst hc
        have HI := Lib.hid (fun a => ans_gt (a := a) HS.out.1 HS.out.2.1)
        clear hcs hi
        go_enter Tryz.func52, Tryz.ntmps52
        go_wp2_with fail
        rw [← hW1]
        clear hW1
        refine (HL1.out _).mono ?_
        rintro e w' ⟨rfl, rfl⟩
        go_wp2_with fail
        refine (HL2.out _).mono ?_
        rintro e w' ⟨rfl, rfl⟩
        go_wp2_with fail
        refine (HPH.out _).mono ?_
        rintro e w' ⟨rfl, rfl⟩
        go_wp2_with fail
        go_quiet (fail)
        go_wp2_with fail
        refine (HNB.out _ (HR1.out.below (below_drewN' (Below.refl _ _) _))).mono ?_
        rintro e W3 ⟨⟨z, b, hnr, rfl⟩, hb3⟩
        have q0 := (hb3.cell (p := ⟨w.heap.size, 0, none⟩) hz).trans q0
        have q1 := (hb3.cell (p := ⟨w.heap.size, 1, none⟩) hz).trans q1
        have q2 := (hb3.cell (p := ⟨w.heap.size, 2, none⟩) hz).trans q2
        have q3 := (hb3.cell (p := ⟨w.heap.size, 3, none⟩) hz).trans q3
        have l0 := (hb3.frozen (p := ⟨w.heap.size, 0, none⟩) hz).trans l0
        have l1 := (hb3.frozen (p := ⟨w.heap.size, 1, none⟩) hz).trans l1
        have l2 := (hb3.frozen (p := ⟨w.heap.size, 2, none⟩) hz).trans l2
        have l3 := (hb3.frozen (p := ⟨w.heap.size, 3, none⟩) hz).trans l3
        have HB3 := Lib.hid ((below_drewN' HB1.out _).trans (hb3.mono HB1.out.size))
        have HNR := Lib.hid hnr
        clear hnr hb3
        cases b
        · have HN : Hid (∀ a, ¬ IsAns s.data.toList a) := Lib.hid (fun a h => by
            obtain ⟨_, ⟨h1, h2⟩, h3, _⟩ := (HI.out a).1 h
            have := (HNR.out.1 a.next.toNat (by omega) h3).2
            cases this)
          go_wp2_with fail
          refine bodyPost_ret (v := .tuple #[ansV ⟨T, z, 0, ⟨#[]⟩⟩, .bool false]) (by simp [results, Tryz.results52, go_sem, q0, q1, q2, q3, ansV]) rfl ?_
          exact ⟨.inr ⟨HN.out, ⟨T, z, 0, ⟨#[]⟩⟩, rfl⟩, (((HB3.out.setCell (p := ⟨w.heap.size, 0, none⟩) (Nat.le_refl _) _).setCell (p := ⟨w.heap.size, 1, none⟩) (Nat.le_refl _) _).setCell (p := ⟨w.heap.size, 2, none⟩) (Nat.le_refl _) _).setCell (p := ⟨w.heap.size, 3, none⟩) (Nat.le_refl _) _⟩
        · by_cases hlt : z < 64
          · have d64 : decide (z < 64) = true := decide_eq_true hlt
            have HY : Hid (IsAns s.data.toList ⟨T, z, 0, ⟨#[]⟩⟩) := Lib.hid ((HI.out _).2 ⟨⟨HPP.out, HT.out⟩, ⟨(HNR.out.2 rfl).1, hlt⟩, (HNR.out.2 rfl).2, rfl, rfl⟩)
            clear hlt
            go_wp2_with fail
            refine bodyPost_ret (v := .tuple #[ansV ⟨T, z, 0, ⟨#[]⟩⟩, .bool true]) (by simp [results, Tryz.results52, go_sem, q0, q1, q2, q3, ansV]) rfl ?_
            exact ⟨.inl ⟨⟨T, z, 0, ⟨#[]⟩⟩, HY.out, rfl⟩, (((HB3.out.setCell (p := ⟨w.heap.size, 0, none⟩) (Nat.le_refl _) _).setCell (p := ⟨w.heap.size, 1, none⟩) (Nat.le_refl _) _).setCell (p := ⟨w.heap.size, 2, none⟩) (Nat.le_refl _) _).setCell (p := ⟨w.heap.size, 3, none⟩) (Nat.le_refl _) _⟩
          · have d64 : decide (z < 64) = false := decide_eq_false hlt
            have HN : Hid (∀ a, ¬ IsAns s.data.toList a) := Lib.hid (fun a h => by
              obtain ⟨_, ⟨h1, h2⟩, h3, _⟩ := (HI.out a).1 h
              have := (HNR.out.1 a.next.toNat (by omega) h3).1
              omega)
            clear hlt
            go_wp2_with fail
            refine bodyPost_ret (v := .tuple #[ansV ⟨T, z, 0, ⟨#[]⟩⟩, .bool false]) (by simp [results, Tryz.results52, go_sem, q0, q1, q2, q3, ansV]) rfl ?_
            exact ⟨.inr ⟨HN.out, ⟨T, z, 0, ⟨#[]⟩⟩, rfl⟩, (((HB3.out.setCell (p := ⟨w.heap.size, 0, none⟩) (Nat.le_refl _) _).setCell (p := ⟨w.heap.size, 1, none⟩) (Nat.le_refl _) _).setCell (p := ⟨w.heap.size, 2, none⟩) (Nat.le_refl _) _).setCell (p := ⟨w.heap.size, 3, none⟩) (Nat.le_refl _) _⟩
      · have d62 : ((s[i + 1].toNat : Int) == 62) = false := by rw [hcs, hc]; rfl
        subst hc
        have HI := Lib.hid (fun a => ans_eq (a := a) HS.out.1 HS.out.2.1)
        have HCT := Lib.hid (fun (X : World) (hX : Ready X) => by
          obtain ⟨m, hm⟩ := hX.most
          exact Tryz.strings_Cut R ⟨#[32]⟩ m X (by omega) hm)
        clear hcs hi
        rcases cutC_cases 32 R.data.toList with ⟨hno, hcut⟩ | ⟨p, r, hp32, hsp, hcut⟩
        · have hc2 : Lib.cut R.data.toList (⟨#[32]⟩ : ByteArray).data.toList = (R.data.toList, [], false) := hcut
          rw [hc2] at HCT
          dsimp only at HCT
          have HN : Hid (∀ a, ¬ IsAns s.data.toList a) := Lib.hid (fun a h => by
            obtain ⟨_, _, _, _, h5⟩ := (HI.out a).1 h
            exact hno (by rw [h5]; simp))
          clear hno hcut hc2
          go_enter Tryz.func52, Tryz.ntmps52
          go_wp2_with fail
          rw [← hW1]
          clear hW1
          refine (HL1.out _).mono ?_
          rintro e w' ⟨rfl, rfl⟩
          go_wp2_with fail
          refine (HL2.out _).mono ?_
          rintro e w' ⟨rfl, rfl⟩
          go_wp2_with fail
          refine (HPH.out _).mono ?_
          rintro e w' ⟨rfl, rfl⟩
          go_wp2_with fail
          go_quiet (fail)
          go_wp2_with fail
          refine (HCT.out _ (HR1.out.below (below_drewN' (Below.refl _ _) _))).mono ?_
          rintro e W3 ⟨rfl, n3, rfl⟩
          have HB1 := Lib.hid (fun k => below_drewN' HB1.out k)
          go_wp2_with fail
          refine bodyPost_ret (v := .tuple #[ansV ⟨⟨#[]⟩, 0, 0, ⟨#[]⟩⟩, .bool false]) (by simp [results, Tryz.results52, go_sem, q0, q1, q2, q3, ansV]) rfl ?_
          exact ⟨.inr ⟨HN.out, ⟨⟨#[]⟩, 0, 0, ⟨#[]⟩⟩, rfl⟩, ((((HB1.out _).setCell (p := ⟨w.heap.size, 0, none⟩) (Nat.le_refl _) _).setCell (p := ⟨w.heap.size, 1, none⟩) (Nat.le_refl _) _).setCell (p := ⟨w.heap.size, 2, none⟩) (Nat.le_refl _) _).setCell (p := ⟨w.heap.size, 3, none⟩) (Nat.le_refl _) _⟩
        · have hc2 : Lib.cut R.data.toList (⟨#[32]⟩ : ByteArray).data.toList = (p, r, true) := hcut
          rw [hc2] at HCT
          dsimp only at HCT
          have hpl : (bs p).size ≤ 1000000000 ∧ (bs r).size ≤ 1000000000 := by
            have h3 : R.data.toList.length = R.size := by simp
            rw [hsp, List.length_append, List.length_cons] at h3
            rw [bs_size, bs_size]
            omega
          obtain ⟨P, hP⟩ : ∃ P, P = bs p := ⟨_, rfl⟩
          obtain ⟨Q, hQ⟩ : ∃ Q, Q = bs r := ⟨_, rfl⟩
          have HPQ := Lib.hid (show P.data.toList = p ∧ Q.data.toList = r ∧ R.data.toList = p ++ 32 :: r ∧ (32 : UInt8) ∉ p by rw [hP, hQ]; exact ⟨bs_data _, bs_data _, hsp, hp32⟩)
          have HCC : Hid (∀ X, Ready X → Calls Tryz.prog 28 #[.string R, .string ⟨#[32]⟩] X fun e w' => e = .returned (.tuple #[.string P, .string Q, .bool true]) ∧ ∃ n, w' = X.drewN n) := by rw [hP, hQ]; exact HCT
          have HNP := Lib.hid (fun X hX => number_any P (by rw [hP]; omega) X hX)
          have HCD := Lib.hid (fun X => isCode_any Q X)
          have HE : Hid (∀ a, IsAns s.data.toList a → a.next = -1 ∧ (1 ≤ a.urg ∧ a.urg ≤ 5) ∧ CodeOk Q ∧ dec a.urg = P.data.toList) := Lib.hid (fun a h => by
            obtain ⟨_, h2, h3, h4, h5⟩ := (HI.out a).1 h
            have h6 := HPQ.out
            rw [h6.2.2.1] at h5
            obtain ⟨e1, e2⟩ := blank_first h6.2.2.2 (dec_none32 a.urg) h5
            rw [← h6.2.1] at e2
            rw [toList_inj e2, h6.1]
            exact ⟨h2, h3, h4, e1.symm⟩)
          clear hcut hc2 hP hQ hsp hp32 HCT hpl
          by_cases hcd : CodeOk Q
          · rw [tb_true hcd] at HCD
            have HCO := Lib.hid hcd
            clear hcd
            go_enter Tryz.func52, Tryz.ntmps52
            go_wp2_with fail
            rw [← hW1]
            clear hW1
            refine (HL1.out _).mono ?_
            rintro e w' ⟨rfl, rfl⟩
            go_wp2_with fail
            refine (HL2.out _).mono ?_
            rintro e w' ⟨rfl, rfl⟩
            go_wp2_with fail
            refine (HPH.out _).mono ?_
            rintro e w' ⟨rfl, rfl⟩
            go_wp2_with fail
            go_quiet (fail)
            go_wp2_with fail
            refine (HCC.out _ (HR1.out.below (below_drewN' (Below.refl _ _) _))).mono ?_
            rintro e W3 ⟨rfl, n3, rfl⟩
            go_wp2_with fail
            refine (HCD.out _).mono ?_
            rintro e w' ⟨rfl, rfl⟩
            go_wp2_with fail
            refine (HNP.out _ (HR1.out.below (below_drewN' (Below.refl _ _) _))).mono ?_
            rintro e W4 ⟨⟨z, b, hnr, rfl⟩, hb4⟩
            have q0 := (hb4.cell (p := ⟨w.heap.size, 0, none⟩) hz).trans q0
            have q1 := (hb4.cell (p := ⟨w.heap.size, 1, none⟩) hz).trans q1
            have q2 := (hb4.cell (p := ⟨w.heap.size, 2, none⟩) hz).trans q2
            have q3 := (hb4.cell (p := ⟨w.heap.size, 3, none⟩) hz).trans q3
            have l0 := (hb4.frozen (p := ⟨w.heap.size, 0, none⟩) hz).trans l0
            have l1 := (hb4.frozen (p := ⟨w.heap.size, 1, none⟩) hz).trans l1
            have l2 := (hb4.frozen (p := ⟨w.heap.size, 2, none⟩) hz).trans l2
            have l3 := (hb4.frozen (p := ⟨w.heap.size, 3, none⟩) hz).trans l3
            have HB4 := Lib.hid ((below_drewN' HB1.out _).trans (hb4.mono HB1.out.size))
            have HNR := Lib.hid hnr
            clear hnr hb4
            cases b
            · have HN : Hid (∀ a, ¬ IsAns s.data.toList a) := Lib.hid (fun a h => by
                obtain ⟨_, h3, _, h4⟩ := HE.out a h
                have := (HNR.out.1 a.urg.toNat (by omega) h4).2
                cases this)
              go_wp2_with fail
              refine bodyPost_ret (v := .tuple #[ansV ⟨T, -1, z, Q⟩, .bool false]) (by simp [results, Tryz.results52, go_sem, q0, q1, q2, q3, ansV]) rfl ?_
              exact ⟨.inr ⟨HN.out, ⟨T, -1, z, Q⟩, rfl⟩, (((HB4.out.setCell (p := ⟨w.heap.size, 0, none⟩) (Nat.le_refl _) _).setCell (p := ⟨w.heap.size, 1, none⟩) (Nat.le_refl _) _).setCell (p := ⟨w.heap.size, 2, none⟩) (Nat.le_refl _) _).setCell (p := ⟨w.heap.size, 3, none⟩) (Nat.le_refl _) _⟩
            · have HUR := Lib.hid (fun X => isUrgency_any z X)
              by_cases hu : UrgOk z
              · rw [tb_true hu] at HUR
                have HY : Hid (IsAns s.data.toList ⟨T, -1, z, Q⟩) := Lib.hid ((HI.out _).2 ⟨⟨HPP.out, HT.out⟩, rfl, hu, HCO.out, by
                  show R.data.toList = Lib.decDigits z.toNat ++ 32 :: Q.data.toList
                  rw [(HNR.out.2 rfl).2, HPQ.out.1, HPQ.out.2.1, HPQ.out.2.2.1]⟩)
                clear hu
                go_wp2_with fail
                refine (HUR.out _).mono ?_
                rintro e w' ⟨rfl, rfl⟩
                go_wp2_with fail
                refine bodyPost_ret (v := .tuple #[ansV ⟨T, -1, z, Q⟩, .bool true]) (by simp [results, Tryz.results52, go_sem, q0, q1, q2, q3, ansV]) rfl ?_
                exact ⟨.inl ⟨⟨T, -1, z, Q⟩, HY.out, rfl⟩, (((HB4.out.setCell (p := ⟨w.heap.size, 0, none⟩) (Nat.le_refl _) _).setCell (p := ⟨w.heap.size, 1, none⟩) (Nat.le_refl _) _).setCell (p := ⟨w.heap.size, 2, none⟩) (Nat.le_refl _) _).setCell (p := ⟨w.heap.size, 3, none⟩) (Nat.le_refl _) _⟩
              · rw [tb_false hu] at HUR
                have HN : Hid (∀ a, ¬ IsAns s.data.toList a) := Lib.hid (fun a h => by
                  obtain ⟨_, h3, _, h4⟩ := HE.out a h
                  have h5 := (HNR.out.1 a.urg.toNat (by omega) h4).1
                  exact hu ⟨by omega, by omega⟩)
                clear hu
                go_wp2_with fail
                refine (HUR.out _).mono ?_
                rintro e w' ⟨rfl, rfl⟩
                go_wp2_with fail
                refine bodyPost_ret (v := .tuple #[ansV ⟨T, -1, z, Q⟩, .bool false]) (by simp [results, Tryz.results52, go_sem, q0, q1, q2, q3, ansV]) rfl ?_
                exact ⟨.inr ⟨HN.out, ⟨T, -1, z, Q⟩, rfl⟩, (((HB4.out.setCell (p := ⟨w.heap.size, 0, none⟩) (Nat.le_refl _) _).setCell (p := ⟨w.heap.size, 1, none⟩) (Nat.le_refl _) _).setCell (p := ⟨w.heap.size, 2, none⟩) (Nat.le_refl _) _).setCell (p := ⟨w.heap.size, 3, none⟩) (Nat.le_refl _) _⟩
          · rw [tb_false hcd] at HCD
            have HN : Hid (∀ a, ¬ IsAns s.data.toList a) := Lib.hid (fun a h => hcd (HE.out a h).2.2.1)
            clear hcd
            go_enter Tryz.func52, Tryz.ntmps52
            go_wp2_with fail
            rw [← hW1]
            clear hW1
            refine (HL1.out _).mono ?_
            rintro e w' ⟨rfl, rfl⟩
            go_wp2_with fail
            refine (HL2.out _).mono ?_
            rintro e w' ⟨rfl, rfl⟩
            go_wp2_with fail
            refine (HPH.out _).mono ?_
            rintro e w' ⟨rfl, rfl⟩
            go_wp2_with fail
            go_quiet (fail)
            go_wp2_with fail
            refine (HCC.out _ (HR1.out.below (below_drewN' (Below.refl _ _) _))).mono ?_
            rintro e W3 ⟨rfl, n3, rfl⟩
            go_wp2_with fail
            refine (HCD.out _).mono ?_
            rintro e w' ⟨rfl, rfl⟩
            have HB1 := Lib.hid (fun k => below_drewN' HB1.out k)
            go_wp2_with fail
            refine bodyPost_ret (v := .tuple #[ansV ⟨⟨#[]⟩, 0, 0, ⟨#[]⟩⟩, .bool false]) (by simp [results, Tryz.results52, go_sem, q0, q1, q2, q3, ansV]) rfl ?_
            exact ⟨.inr ⟨HN.out, ⟨⟨#[]⟩, 0, 0, ⟨#[]⟩⟩, rfl⟩, ((((HB1.out _).setCell (p := ⟨w.heap.size, 0, none⟩) (Nat.le_refl _) _).setCell (p := ⟨w.heap.size, 1, none⟩) (Nat.le_refl _) _).setCell (p := ⟨w.heap.size, 2, none⟩) (Nat.le_refl _) _).setCell (p := ⟨w.heap.size, 3, none⟩) (Nat.le_refl _) _⟩
    · rw [tb_false hp] at HPH
      have HN : Hid (∀ a, ¬ IsAns s.data.toList a) := Lib.hid (fun a h => hp (by
        have h1 := (ans_cut HS.out.1 h).1
        rw [← HT.out] at h1
        rw [← toList_inj h1]
        exact h.2.1))
      clear hp hcs hc
      go_enter Tryz.func52, Tryz.ntmps52
      go_wp2_with fail
      rw [← hW1]
      clear hW1
      refine (HL1.out _).mono ?_
      rintro e w' ⟨rfl, rfl⟩
      go_wp2_with fail
      refine (HL2.out _).mono ?_
      rintro e w' ⟨rfl, rfl⟩
      go_wp2_with fail
      refine (HPH.out _).mono ?_
      rintro e w' ⟨rfl, rfl⟩
      go_wp2_with fail
      refine bodyPost_ret (v := .tuple #[ansV ⟨⟨#[]⟩, 0, 0, ⟨#[]⟩⟩, .bool false]) (by simp [results, Tryz.results52, go_sem, q0, q1, q2, q3, ansV]) rfl ?_
      exact ⟨.inr ⟨HN.out, ⟨⟨#[]⟩, 0, 0, ⟨#[]⟩⟩, rfl⟩, (((HB1.out.setCell (p := ⟨w.heap.size, 0, none⟩) (Nat.le_refl _) _).setCell (p := ⟨w.heap.size, 1, none⟩) (Nat.le_refl _) _).setCell (p := ⟨w.heap.size, 2, none⟩) (Nat.le_refl _) _).setCell (p := ⟨w.heap.size, 3, none⟩) (Nat.le_refl _) _⟩
end Go.Proofs.YtbbklideciappaaGreatDoor
