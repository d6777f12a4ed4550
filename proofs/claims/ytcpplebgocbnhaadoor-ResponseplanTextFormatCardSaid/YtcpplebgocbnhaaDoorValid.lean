/-
  responseplan.isCode, valid and samaritanref31.One: what each returns, for every plan.
-/
import Derived.Test.YtcpplebgocbnhaaDoorSmall
import Derived.Test.YtcpplebgocbnhaaDoorWakes
namespace Go.Proofs.YtcpplebgocbnhaaDoor
open Go.RowKit Go.Maps

def okC (c : UInt8) : Bool := decide (33 ≤ c.toNat ∧ c.toNat ≤ 126)
def codeB (s : ByteArray) : Bool := decide (1 ≤ s.size ∧ s.size ≤ 40) && s.data.toList.all okC

theorem byte_snoc (s : ByteArray) (k : Nat) (h : k < s.size) : s.data.toList.take (k + 1) = s.data.toList.take k ++ [s[k]] := by
  rw [List.take_add_one]
  have : s.data.toList[k]? = some s[k] := by
    rw [List.getElem?_eq_getElem (by simpa using h)]
    rfl
  rw [this]
  rfl
theorem byte_all (s : ByteArray) : s.data.toList.take s.size = s.data.toList := List.take_of_length_le (by simp)

set_option maxRecDepth 100000 in
theorem isCode_any (s : ByteArray) (w : World) (hs : s.size ≤ 9223372036854775807) :
    Calls Tryd.prog 63 #[.string s] w fun e w' => e = .returned (.bool (codeB s)) ∧ w = w' := by
  by_cases h1 : s.size < 1
  · have hE : codeB s = false := by
      unfold codeB
      rw [decide_eq_false (by omega)]
      rfl
    rw [hE]
    have hd : decide ((s.size : Int) < 1) = true := by simp; omega
    go_enter Tryd.func63, Tryd.ntmps63
    go_wp2_with fail
    go_ret
    exact ⟨rfl, rfl⟩
  · have hd1 : decide ((s.size : Int) < 1) = false := by simp; omega
    by_cases h2 : 40 < s.size
    · have hE : codeB s = false := by
        unfold codeB
        rw [decide_eq_false (by omega)]
        rfl
      rw [hE]
      have hd : decide ((40 : Int) < (s.size : Int)) = true := by simp; omega
      go_enter Tryd.func63, Tryd.ntmps63
      go_wp2_with fail
      go_ret
      exact ⟨rfl, rfl⟩
    · have hd2 : decide ((40 : Int) < (s.size : Int)) = false := by simp; omega
      have HE : Hid (codeB s = s.data.toList.all okC) := by
        show _ = _
        unfold codeB
        rw [decide_eq_true (by omega), Bool.true_and]
      generalize codeB s = r at *
      go_enter Tryd.func63, Tryd.ntmps63
      go_wp2_with fail
      go_loop [14] (fun i => ∃ k : Nat, k ≤ s.size ∧ i = .int .i64 k ∧ (s.data.toList.take k).all okC = true) (fun i => s.size - (intOf i).toNat)
      case atStart => exact ⟨0, Nat.zero_le _, rfl, rfl⟩
      case round =>
        obtain ⟨k, hk, rfl, hall⟩ := hrel
        have HALL := Lib.hid hall
        clear hall
        by_cases hlt : k < s.size
        · have HT : Hid ((s.data.toList.take (k + 1)).all okC = okC s[k]) := by
            show _ = _
            rw [byte_snoc s k hlt, List.all_append, HALL.out]
            simp
          have HN : Hid (okC s[k] = false → r = false) := by
            intro h
            rw [HE.out, List.all_eq_false]
            exact ⟨s[k], by rw [Array.mem_toList_iff]; exact Array.getElem_mem (xs := s.data) hlt, by simp [h]⟩
          have HO : Hid (okC s[k] = decide (33 ≤ s[k].toNat ∧ s[k].toNat ≤ 126)) := rfl
          go_wp2_with fail
          · go_ret
            refine ⟨ret_bool (HN.out ?_).symm, rfl⟩
            rw [HO.out, decide_eq_false_iff_not]
            omega
          · go_ret
            refine ⟨ret_bool (HN.out ?_).symm, rfl⟩
            rw [HO.out, decide_eq_false_iff_not]
            omega
          · go_round
            case rel =>
              refine ⟨k + 1, by omega, by go_num, ?_⟩
              rw [HT.out, HO.out, decide_eq_true_iff]
              omega
            case measure => simp [intOf]; omega
        · have hkk : k = s.size := by omega
          subst hkk
          go_wp2_with fail
          go_ret
          refine ⟨ret_bool ?_, rfl⟩
          have := HALL.out
          rw [byte_all] at this
          rw [HE.out, this]

def validB (p : Plan) : Bool := codeB p.code && (decide (1 ≤ p.urg ∧ p.urg ≤ 5) && (decide (1 ≤ p.kinds.length ∧ p.kinds.length ≤ 8) && p.kinds.all kindB))

theorem all_snoc {P : Int → Bool} {l : List Int} {k : Nat} {z : Int} (h : (l.take k).all P = true) (hz : l[k]? = some z) : (l.take (k + 1)).all P = P z := by
  rw [take_snoc hz, List.all_append, h]
  simp
theorem all_no {P : Int → Bool} {l : List Int} {k : Nat} {z : Int} (hz : l[k]? = some z) (h : P z = false) : l.all P = false := by
  rw [List.all_eq_false]
  exact ⟨z, List.mem_of_getElem? hz, by simp [h]⟩

set_option maxRecDepth 100000 in
set_option maxHeartbeats 1000000 in
theorem valid_any (p : Plan) (w : World) (hs : Sl w w.heap.size p.kA (p.kinds.map (Value.int .i64))) (hw : PlanWf p) :
    Calls Tryd.prog 47 #[.agg #[.string p.code, .int .i64 p.urg, .slice p.kA p.kinds.length p.kc]] w fun e w' => e = .returned (.bool (validB p)) ∧ Below w.heap.size w w' := by
  have hcs := hw.code
  have hbel : Below w.heap.size w (w.alloc (.cells #[.string p.code, .int .i64 p.urg, .slice p.kA p.kinds.length p.kc] 35)) := (Below.refl _ _).alloc (Nat.le_refl _) _
  have HB := Lib.hid hbel
  have HV : Hid (validB p = (codeB p.code && (decide (1 ≤ p.urg ∧ p.urg ≤ 5) && (decide (1 ≤ p.kinds.length ∧ p.kinds.length ≤ 8) && p.kinds.all kindB)))) := rfl
  have hs1 := hs.alloc (Nat.le_refl _) (.cells #[.string p.code, .int .i64 p.urg, .slice p.kA p.kinds.length p.kc] 35)
  generalize validB p = r at *
  clear hbel hw
  go_enter Tryd.func47, Tryd.ntmps47
  go_wp2_with fail
  refine (isCode_any p.code _ hcs).mono ?_
  rintro e w' ⟨rfl, rfl⟩
  cases hc : codeB p.code
  · have E : Hid (r = false) := by show _ = _; rw [HV.out, hc]; rfl
    clear hc
    go_wp2_with fail
    go_ret
    exact ⟨ret_bool E.out.symm, HB.out⟩
  · rw [hc, Bool.true_and] at HV
    clear hc
    by_cases hu : 1 ≤ p.urg ∧ p.urg ≤ 5
    · rw [decide_eq_true hu, Bool.true_and] at HV
      obtain ⟨hu1, hu2⟩ := hu
      by_cases hl : 1 ≤ p.kinds.length ∧ p.kinds.length ≤ 8
      · rw [decide_eq_true hl, Bool.true_and] at HV
        obtain ⟨hl1, hl2⟩ := hl
        have hd1 : decide (p.urg < 1) = false := by simp; omega
        have hd2 : decide (5 < p.urg) = false := by simp; omega
        have hd3 : decide ((p.kinds.length : Int) < 1) = false := by simp; omega
        have hd4 : decide ((8 : Int) < (p.kinds.length : Int)) = false := by simp; omega
        go_wp2_with fail
        generalize hW : w.alloc (.cells #[.string p.code, .int .i64 p.urg, .slice p.kA p.kinds.length p.kc] 35) = W at *
        clear hW
        go_loop [32] (fun i => ∃ k : Nat, k ≤ p.kinds.length ∧ i = .int .i64 k ∧ (p.kinds.take k).all kindB = true) (fun i => p.kinds.length - (intOf i).toNat)
        case atStart => exact ⟨0, Nat.zero_le _, rfl, rfl⟩
        case round =>
          obtain ⟨k, hk, rfl, hall⟩ := hrel
          have HALL := Lib.hid hall
          clear hall
          by_cases hlt : k < p.kinds.length
          · obtain ⟨z, hz⟩ : ∃ z, p.kinds[k]? = some z := ⟨p.kinds[k], by simp⟩
            obtain ⟨b, o, hA, hbb, hcell⟩ := hs1.int hz
            rw [hA]
            have HZ := Lib.hid hz
            clear hz hA
            go_wp2_with fail
            refine (isKind_any z _).mono ?_
            rintro e w' ⟨rfl, rfl⟩
            cases hkb : kindB z
            · have E : Hid (r = false) := by show _ = _; rw [HV.out]; exact all_no HZ.out hkb
              clear hkb
              go_wp2_with fail
              go_ret
              exact ⟨ret_bool E.out.symm, HB.out⟩
            · have E := Lib.hid ((all_snoc HALL.out HZ.out).trans hkb)
              clear hkb
              go_wp2_with fail
              go_round
              case rel => exact ⟨k + 1, by omega, by go_num, E.out⟩
              case measure => simp [intOf]; omega
          · have hkk : k = p.kinds.length := by omega
            subst hkk
            rw [List.take_length] at HALL
            go_wp2_with fail
            go_ret
            exact ⟨ret_bool (by rw [HV.out, HALL.out]), HB.out⟩
      · have E : Hid (r = false) := by show _ = _; rw [HV.out, decide_eq_false hl]; rfl
        have hd1 : decide (p.urg < 1) = false := by simp; omega
        have hd2 : decide (5 < p.urg) = false := by simp; omega
        rcases (show p.kinds.length < 1 ∨ (1 ≤ p.kinds.length ∧ 8 < p.kinds.length) from by omega) with h | ⟨h, h'⟩
        · have hd3 : decide ((p.kinds.length : Int) < 1) = true := by simp; omega
          go_wp2_with fail
          go_ret
          exact ⟨ret_bool E.out.symm, HB.out⟩
        · have hd3 : decide ((p.kinds.length : Int) < 1) = false := by simp; omega
          have hd4 : decide ((8 : Int) < (p.kinds.length : Int)) = true := by simp; omega
          go_wp2_with fail
          go_ret
          exact ⟨ret_bool E.out.symm, HB.out⟩
    · have E : Hid (r = false) := by show _ = _; rw [HV.out, decide_eq_false hu]; rfl
      rcases (show p.urg < 1 ∨ (1 ≤ p.urg ∧ 5 < p.urg) from by omega) with h | ⟨h, h'⟩
      · have hd1 : decide (p.urg < 1) = true := by simp; omega
        go_wp2_with fail
        go_ret
        exact ⟨ret_bool E.out.symm, HB.out⟩
      · have hd1 : decide (p.urg < 1) = false := by simp; omega
        have hd2 : decide (5 < p.urg) = true := by simp; omega
        go_wp2_with fail
        go_ret
        exact ⟨ret_bool E.out.symm, HB.out⟩

set_option maxRecDepth 100000 in
set_option maxHeartbeats 1000000 in
theorem one_any (p : Plan) (w : World) (hs : Sl w w.heap.size p.kA (p.kinds.map (Value.int .i64))) (hw : PlanWf p) :
    Calls Tryd.prog 49 #[.agg #[.string p.code, .int .i64 p.urg, .slice p.kA p.kinds.length p.kc]] w fun e w' => e = .returned (.bool (validB p)) ∧ Below w.heap.size w w' := by
  have hcs := hw.code
  have hbel : Below w.heap.size w (w.alloc (.cells #[.string p.code, .int .i64 p.urg, .slice p.kA p.kinds.length p.kc] 35)) := (Below.refl _ _).alloc (Nat.le_refl _) _
  have HB := Lib.hid hbel
  have HV : Hid (validB p = (codeB p.code && (decide (1 ≤ p.urg ∧ p.urg ≤ 5) && (decide (1 ≤ p.kinds.length ∧ p.kinds.length ≤ 8) && p.kinds.all kindB)))) := rfl
  have hs1 := hs.alloc (Nat.le_refl _) (.cells #[.string p.code, .int .i64 p.urg, .slice p.kA p.kinds.length p.kc] 35)
  have HC : Hid (codeB p.code = (decide (1 ≤ p.code.size ∧ p.code.size ≤ 40) && p.code.data.toList.all okC)) := rfl
  generalize validB p = r at *
  clear hbel hw
  by_cases hpre : (1 ≤ p.code.size ∧ p.code.size ≤ 40) ∧ (1 ≤ p.urg ∧ p.urg ≤ 5) ∧ (1 ≤ p.kinds.length ∧ p.kinds.length ≤ 8)
  · obtain ⟨h1, h2, h3⟩ := hpre
    rw [decide_eq_true h1, Bool.true_and] at HC
    rw [decide_eq_true h2, decide_eq_true h3, Bool.true_and, Bool.true_and, HC.out] at HV
    have hd1 : decide ((p.code.size : Int) < 1) = false := by simp; omega
    have hd2 : decide ((40 : Int) < (p.code.size : Int)) = false := by simp; omega
    have hd3 : decide (p.urg < 1) = false := by simp; omega
    have hd4 : decide (5 < p.urg) = false := by simp; omega
    have hd5 : decide ((p.kinds.length : Int) < 1) = false := by simp; omega
    have hd6 : decide ((8 : Int) < (p.kinds.length : Int)) = false := by simp; omega
    clear HC
    obtain ⟨b, o, hA, hcells⟩ : ∃ b o, p.kA = some ⟨b, o, none⟩ ∧ ∀ (k : Nat) (z : Int), p.kinds[k]? = some z → (w.alloc (.cells #[.string p.code, .int .i64 p.urg, .slice p.kA p.kinds.length p.kc] 35)).cell? ⟨b, o + k, none⟩ = some (.int .i64 z) := by
      obtain ⟨b, o, e, _, _⟩ := hs1.int (j := 0) (z := p.kinds[0]) (by simp)
      refine ⟨b, o, e, fun k z hz => ?_⟩
      obtain ⟨b', o', e', _, hc⟩ := hs1.int hz
      rw [e] at e'
      injection e' with e'
      injection e' with e1 e2
      subst e1 e2
      exact hc
    rw [hA] at hcells HB ⊢
    have HCELL := Lib.hid hcells
    clear hA hcells hs hs1
    go_enter Tryd.func49, Tryd.ntmps49
    go_wp2_with fail
    go_loop [3] (fun i => ∃ k : Nat, k ≤ p.code.size ∧ i = .int .i64 k ∧ (p.code.data.toList.take k).all okC = true) (fun i => p.code.size - (intOf i).toNat)
    case atStart => exact ⟨0, Nat.zero_le _, rfl, rfl⟩
    case round =>
      obtain ⟨k, hk, rfl, hall⟩ := hrel
      have HALL := Lib.hid hall
      clear hall
      by_cases hlt : k < p.code.size
      · have HT : Hid ((p.code.data.toList.take (k + 1)).all okC = okC p.code[k]) := by
          show _ = _
          rw [byte_snoc p.code k hlt, List.all_append, HALL.out]
          simp
        have HN : Hid (okC p.code[k] = false → r = false) := by
          intro h
          have : p.code.data.toList.all okC = false := by
            rw [List.all_eq_false]
            exact ⟨p.code[k], by rw [Array.mem_toList_iff]; exact Array.getElem_mem (xs := p.code.data) hlt, by simp [h]⟩
          rw [HV.out, this]
          rfl
        have HO : Hid (okC p.code[k] = decide (33 ≤ p.code[k].toNat ∧ p.code[k].toNat ≤ 126)) := rfl
        go_wp2_with fail
        · go_ret
          refine ⟨ret_bool (HN.out ?_).symm, HB.out⟩
          rw [HO.out, decide_eq_false_iff_not]
          omega
        · go_ret
          refine ⟨ret_bool (HN.out ?_).symm, HB.out⟩
          rw [HO.out, decide_eq_false_iff_not]
          omega
        · go_round
          case rel =>
            refine ⟨k + 1, by omega, by go_num, ?_⟩
            rw [HT.out, HO.out, decide_eq_true_iff]
            omega
          case measure => simp [intOf]; omega
      · have hkk : k = p.code.size := by omega
        subst hkk
        have hA := HALL.out
        rw [byte_all] at hA
        rw [hA, Bool.true_and] at HV
        clear HALL hA hlt hk
        go_wp2_with fail
        go_loop [4] (fun i => ∃ k : Nat, k ≤ p.kinds.length ∧ i = .int .i64 k ∧ (p.kinds.take k).all kindB = true) (fun i => p.kinds.length - (intOf i).toNat)
        case atStart => exact ⟨0, Nat.zero_le _, rfl, rfl⟩
        case round =>
          obtain ⟨k, hk, rfl, hall⟩ := hrel
          have HALL := Lib.hid hall
          clear hall
          by_cases hlt : k < p.kinds.length
          · obtain ⟨z, hz⟩ : ∃ z, p.kinds[k]? = some z := ⟨p.kinds[k], by simp⟩
            have hcell := HCELL.out k z hz
            have HZ := Lib.hid hz
            have HK : Hid (kindB z = decide (1 ≤ z ∧ z ≤ 4)) := rfl
            have HN : Hid (kindB z = false → r = false) := fun h => by rw [HV.out]; exact all_no HZ.out h
            have HY := Lib.hid (all_snoc HALL.out HZ.out)
            clear hz
            go_wp2_with fail
            · go_ret
              refine ⟨ret_bool (HN.out ?_).symm, HB.out⟩
              rw [HK.out, decide_eq_false_iff_not]
              omega
            · go_ret
              refine ⟨ret_bool (HN.out ?_).symm, HB.out⟩
              rw [HK.out, decide_eq_false_iff_not]
              omega
            · go_round
              case rel =>
                refine ⟨k + 1, by omega, by go_num, ?_⟩
                rw [HY.out, HK.out, decide_eq_true_iff]
                omega
              case measure => simp [intOf]; omega
          · have hkk : k = p.kinds.length := by omega
            subst hkk
            rw [List.take_length] at HALL
            go_wp2_with fail
            go_ret
            exact ⟨ret_bool (by rw [HV.out, HALL.out]), HB.out⟩
  · have E : Hid (r = false) := by
      show _ = _
      rw [HV.out, HC.out]
      by_cases a1 : 1 ≤ p.code.size ∧ p.code.size ≤ 40
      · by_cases a2 : 1 ≤ p.urg ∧ p.urg ≤ 5
        · rw [decide_eq_false (fun a3 => hpre ⟨a1, a2, a3⟩)]
          simp
        · rw [decide_eq_false a2]
          simp
      · rw [decide_eq_false a1]
        simp
    go_enter Tryd.func49, Tryd.ntmps49
    go_wp2_with fail
    all_goals go_ret
    all_goals exact ⟨ret_bool E.out.symm, HB.out⟩
end Go.Proofs.YtcpplebgocbnhaaDoor
