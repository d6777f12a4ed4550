/-
  samaritanref31.Small, samaritanref31.Kinds, responseplan.find, slices.Clone at []int, responseplan.RequiredKinds: what each returns, for every slice of plans.
-/
import Derived.Test.YtpomakmmjbimfaaLeft
import Derived.Test.YtpomakmmjbimfaaMemB
import Derived.Test.YtpomakmmjbimfaaPlans
import Derived.Deep.LoopGhost
import Derived.Lib.SliceRun
namespace Go.Proofs.Ytpomakmmjbimfaa
open Go.RowKit Go.Maps

def planSmall (p : Plan) : Bool := decide (p.code.size ≤ 100 ∧ p.kinds.length ≤ 20)
def smallP (ps : List Plan) : Bool := ps.all planSmall && decide (ps.length ≤ 40)

set_option maxRecDepth 100000 in
theorem small_any (A : Option Addr) (c : Nat) (ps : List Plan) (w : World) (B : Nat) (hp : Plans w B A ps) (hl : ps.length ≤ 9223372036854775807) :
    Calls Try.prog 33 #[.slice A ps.length c] w fun e w' => e = .returned (.bool (smallP ps)) ∧ w = w' := by
  go_enter Try.func33, Try.ntmps33
  go_wp2_with fail
  go_loop [3] (fun i => ∃ k : Nat, k ≤ ps.length ∧ i = .int .i64 k ∧ (ps.take k).all planSmall = true) (fun i => ps.length - (intOf i).toNat)
  case atStart => exact ⟨0, Nat.zero_le _, rfl, rfl⟩
  case round =>
    obtain ⟨k, hk, rfl, hall⟩ := hrel
    have HALL := Lib.hid hall
    clear hall
    by_cases hlt : k < ps.length
    · obtain ⟨p, hpk⟩ : ∃ p, ps[k]? = some p := ⟨ps[k], by simp⟩
      obtain ⟨⟨b, o, rfl, hb, c0, c1, c2, _⟩, hwf⟩ := hp k p hpk
      have HPK := Lib.hid hpk
      have hcs := hwf.code
      have hks := hwf.len
      have hkc := hwf.cap
      clear hpk hwf
      have HNO : Hid (¬ (p.code.size ≤ 100 ∧ p.kinds.length ≤ 20) → smallP ps = false) := by
        intro h
        have : ps.all planSmall = false := by
          rw [List.all_eq_false]
          exact ⟨p, List.mem_of_getElem? HPK.out, by simp only [planSmall, h]; simp⟩
        simp [smallP, this]
      go_wp2_with fail
      · go_ret
        exact ⟨ret_bool (HNO.out (by omega)).symm, rfl⟩
      · go_ret
        exact ⟨ret_bool (HNO.out (by omega)).symm, rfl⟩
      · go_round
        case rel =>
          refine ⟨k + 1, by omega, by go_num, ?_⟩
          rw [take_snoc HPK.out]
          simp only [List.all_append, HALL.out]
          simp [planSmall]
          omega
        case measure => simp [intOf]; omega
    · have hkk : k = ps.length := by omega
      subst hkk
      rw [List.take_length] at HALL
      go_wp2_with fail
      go_ret
      refine ⟨ret_bool ?_, rfl⟩
      rw [smallP, HALL.out, Bool.true_and]
      exact decide_eq_decide.2 (by omega)

def hitP (code : ByteArray) (urg : Int) (p : Plan) : Bool := p.code.toList == code.toList && p.urg == urg
def star : ByteArray := ⟨#[42]⟩
def pickP (ps : List Plan) (code : ByteArray) (urg : Int) : Option Plan := (ps.find? (hitP code urg)).or (ps.find? (hitP star urg))
def kindsL (ps : List Plan) (code : ByteArray) (urg : Int) : List Int := match pickP ps code urg with
  | some p => p.kinds
  | none => [1]

theorem find_at {P : Plan → Bool} {ps : List Plan} {k : Nat} {p : Plan} (h : ∀ q ∈ ps.take k, P q = false) (hk : ps[k]? = some p) (hp : P p = true) : ps.find? P = some p := by
  have hlt := (List.getElem?_eq_some_iff.1 hk).1
  have e : ps = ps.take k ++ p :: ps.drop (k + 1) := by
    have h1 : ps[k] = p := (List.getElem?_eq_some_iff.1 hk).2
    rw [← h1, ← List.drop_eq_getElem_cons hlt, List.take_append_drop]
  rw [e, List.find?_append]
  have : (ps.take k).find? P = none := by
    rw [List.find?_eq_none]
    intro x hx
    simp [h x hx]
  rw [this]
  simp [hp]
theorem find_none {P : Plan → Bool} {ps : List Plan} (h : ∀ q ∈ ps, P q = false) : ps.find? P = none := by
  rw [List.find?_eq_none]
  intro x hx
  simp [h x hx]
theorem miss_snoc {P : Plan → Bool} {ps : List Plan} {k : Nat} {p : Plan} (h : ∀ q ∈ ps.take k, P q = false) (hk : ps[k]? = some p) (hp : P p = false) : ∀ q ∈ ps.take (k + 1), P q = false := by
  intro q hq
  rw [take_snoc hk] at hq
  simp at hq
  rcases hq with hq | rfl
  · exact h q hq
  · exact hp

set_option maxRecDepth 100000 in
theorem hit_any (s : ByteArray) (z : Int) (v2 : Value) (code : ByteArray) (urg : Int) (p1 p2 : Addr) (w : World) (h1 : w.cell? p1 = some (.string code)) (h2 : w.cell? p2 = some (.int .i64 urg)) :
    Calls Try.prog 67 #[.agg #[.string s, .int .i64 z, v2], .pointer (some p1), .pointer (some p2)] w fun e w' => e = .returned (.bool (s.toList == code.toList && z == urg)) ∧ Below w.heap.size w w' := by
  have g1 : ∀ o, (w.alloc o).cell? p1 = some (.string code) := fun o => (World.cell?_alloc_lt w o p1 (World.block_lt_of_cell? w _ h1)).trans h1
  have g2 : ∀ o, (w.alloc o).cell? p2 = some (.int .i64 urg) := fun o => (World.cell?_alloc_lt w o p2 (World.block_lt_of_cell? w _ h2)).trans h2
  go_enter Try.func67, Try.ntmps67
  go_wp2_with fail
  all_goals go_ret
  · have h : s.toList = code.toList := by assumption
    exact ⟨ret_bool (by simp [h]), (Below.refl _ _).alloc (Nat.le_refl _) _⟩
  · have h : ¬ s.toList = code.toList := by assumption
    exact ⟨ret_bool (by simp [h]), (Below.refl _ _).alloc (Nat.le_refl _) _⟩

/-- what find returns: the first plan that is met, or -1. -/
def Found (P : Plan → Bool) (ps : List Plan) (w : World) (e : Ending) (w' : World) : Prop :=
  ∃ r : Int, e = .returned (.int .i64 r) ∧ Below w.heap.size w w' ∧ ((r = -1 ∧ ps.find? P = none) ∨ ∃ (i : Nat) (p : Plan), r = i ∧ ps[i]? = some p ∧ ps.find? P = some p)

set_option maxRecDepth 100000 in
theorem indexFunc_any (A : Option Addr) (c : Nat) (ps : List Plan) (code : ByteArray) (urg : Int) (p1 p2 : Addr) (w : World) (hp : Plans w w.heap.size A ps) (hl : ps.length ≤ 9223372036854775807)
    (h1 : w.cell? p1 = some (.string code)) (h2 : w.cell? p2 = some (.int .i64 urg)) :
    Calls Try.prog 66 #[.slice A ps.length c, .func (Fn.func 67) #[] #[.pointer (some p1), .pointer (some p2)]] w (Found (hitP code urg) ps w) := by
  go_enter Try.func66, Try.ntmps66
  go_wp2_with fail
  go_loopw [8] (fun i wr => ∃ k : Nat, k ≤ ps.length ∧ i = .int .i64 k ∧ (∀ q ∈ ps.take k, hitP code urg q = false) ∧ Below w.heap.size w wr) (fun i _ => ps.length - (intOf i).toNat)
  case atStart => exact ⟨0, Nat.zero_le _, rfl, by simp, Below.refl _ _⟩
  case round =>
    obtain ⟨k, hk, rfl, hall, hnx⟩ := hrel
    have HALL := Lib.hid hall
    clear hall
    by_cases hlt : k < ps.length
    · obtain ⟨p, hpk⟩ : ∃ p, ps[k]? = some p := ⟨ps[k], by simp⟩
      obtain ⟨⟨b, o, rfl, hb, c0, c1, c2, _⟩, hwf⟩ := (hp.below hnx) k p hpk
      have HPK := Lib.hid hpk
      have g1 : wr.cell? p1 = some (.string code) := (hnx.cell (World.block_lt_of_cell? w _ h1)).trans h1
      have g2 : wr.cell? p2 = some (.int .i64 urg) := (hnx.cell (World.block_lt_of_cell? w _ h2)).trans h2
      clear hpk hwf
      go_wp2_with fail
      refine (hit_any p.code p.urg _ code urg p1 p2 wr g1 g2).mono ?_
      rintro e w1 ⟨rfl, hb1⟩
      have HB1 := Lib.hid (hnx.trans (hb1.mono hnx.size))
      rw [show (p.code.toList == code.toList && p.urg == urg) = hitP code urg p from rfl]
      clear hb1
      cases hh : hitP code urg p
      · have HT := Lib.hid (miss_snoc HALL.out HPK.out hh)
        clear hh
        go_wp2_with fail
        go_roundw
        case rel => exact ⟨k + 1, by omega, by go_num, HT.out, HB1.out⟩
        case measure => simp [intOf]; omega
      · have HT := Lib.hid (find_at HALL.out HPK.out hh)
        clear hh
        go_wp2_with fail
        go_ret
        exact ⟨k, rfl, HB1.out, .inr ⟨k, p, rfl, HPK.out, HT.out⟩⟩
    · have hkk : k = ps.length := by omega
      subst hkk
      rw [List.take_length] at HALL
      go_wp2_with fail
      go_ret
      exact ⟨-1, rfl, hnx, .inl ⟨rfl, find_none HALL.out⟩⟩

set_option maxRecDepth 100000 in
theorem find_any (A : Option Addr) (c : Nat) (ps : List Plan) (code : ByteArray) (urg : Int) (w : World) (hp : Plans w w.heap.size A ps) (hl : ps.length ≤ 9223372036854775807) :
    Calls Try.prog 53 #[.slice A ps.length c, .string code, .int .i64 urg] w (Found (hitP code urg) ps w) := by
  go_enter Try.func53, Try.ntmps53
  go_wp2_with fail
  have hb : Below w.heap.size w ((w.alloc (.cells #[.string code] 9)).alloc (.cells #[.int .i64 urg] 3)) := ((Below.refl _ _).alloc (Nat.le_refl _) _).alloc (by simp) _
  refine (indexFunc_any A c ps code urg ⟨w.heap.size, 0, none⟩ ⟨w.heap.size + 1, 0, none⟩ _ ((hp.below hb).more hb.size) hl (by simp) (by simp)).mono ?_
  rintro e w1 ⟨r, rfl, hb1, hr⟩
  have HB := Lib.hid (hb.trans (hb1.mono hb.size))
  have HR := Lib.hid hr
  clear hb hb1 hr
  go_wp2_with fail
  go_ret
  exact ⟨r, rfl, HB.out, HR.out⟩

set_option maxRecDepth 100000 in
theorem clone_any (A : Option Addr) (c : Nat) (zs : List Int) (w : World) (ha : Sl w w.heap.size A (zs.map (Value.int .i64))) (hl : zs.length ≤ 1099511627776) (hn : A = none → c = 0) :
    Calls Try.prog 37 #[.slice A zs.length c] w (RetI 3 w zs) := by
  have HN := Lib.hid hn
  clear hn
  have hnil := fun (W : World) (a : Option Addr) (n c : Nat) => Lib.run_eql_slice_nil (P := Try.prog) W 28 3 a n c 0 0 Try.underlying28
  have hE0 : OwnI (w.alloc (.cells #[] 3)) w.heap.size 3 (.slice (some ⟨w.heap.size, 0, none⟩) 0 0) [] := OwnV.lit w w.heap.size 3 [] (f := Value.int .i64) rfl (Nat.le_refl _) (by simp) #[] rfl
  have hs1 := ha.alloc (Nat.le_refl _) (.cells #[] 3)
  have hb1 : Below w.heap.size w (w.alloc (.cells #[] 3)) := (Below.refl _ _).alloc (Nat.le_refl _) _
  cases A with
  | none =>
    obtain rfl : zs = [] := by simpa using ha.nil_of_none
    obtain rfl := HN.out rfl
    go_enter Try.func37, Try.ntmps37
    go_wp2_with fail
    go_ret
    exact ⟨_, rfl, OwnV.nil _ _ _, Below.refl _ _⟩
  | some a =>
    go_enter Try.func37, Try.ntmps37
    go_wp2_with (refine wpList_append_sl _ rfl (.tmp 5) (.tmp 6) 28 rfl 3 Try.underlying28 int_info rfl (by omega) w.heap.size _ [] rfl hE0 w.heap.size _ _ _ zs rfl rfl HN.out hs1 (by intro y _; rfl) (by simp; omega) (by simp) ?_; intro v2 w2 hown2 hg2)
    go_ret
    exact ⟨_, rfl, hown2, hb1.grown hg2 hb1.size (fun j hj => hE0.ge_base j hj)⟩

/-- a slice that reads as zs in the world behind the call. -/
def RetS (w : World) (zs : List Int) (e : Ending) (w' : World) : Prop := ∃ A c, e = .returned (.slice A zs.length c) ∧ Sl w' w'.heap.size A (zs.map (Value.int .i64)) ∧ Below w.heap.size w w'

set_option maxRecDepth 100000 in
theorem kinds_any (A : Option Addr) (c : Nat) (ps : List Plan) (code : ByteArray) (urg : Int) (w : World) (hp : Plans w w.heap.size A ps) (hl : ps.length ≤ 9223372036854775807) :
    Calls Try.prog 40 #[.slice A ps.length c, .string code, .int .i64 urg] w (RetS w (kindsL ps code urg)) := by
  go_enter Try.func40, Try.ntmps40
  go_wp2_with fail
  go_loop [7] (fun i => ∃ k : Nat, k ≤ ps.length ∧ i = .int .i64 k ∧ (∀ q ∈ ps.take k, hitP code urg q = false)) (fun i => ps.length - (intOf i).toNat)
  case atStart => exact ⟨0, Nat.zero_le _, rfl, by simp⟩
  case round =>
    obtain ⟨k, hk, rfl, hall⟩ := hrel
    have HALL := Lib.hid hall
    clear hall
    by_cases hlt : k < ps.length
    · obtain ⟨p, hpk⟩ : ∃ p, ps[k]? = some p := ⟨ps[k], by simp⟩
      obtain ⟨⟨b, o, rfl, hb, c0, c1, c2, hsl⟩, hwf⟩ := hp k p hpk
      have HPK := Lib.hid hpk
      have HS := Lib.hid hsl
      clear hpk hwf hsl
      cases hh : hitP code urg p
      · have HT := Lib.hid (miss_snoc HALL.out HPK.out hh)
        have hh' : ¬ (p.code.toList = code.toList ∧ p.urg = urg) := by
          intro q
          simp [hitP, q.1, q.2] at hh
        clear hh
        by_cases e1 : p.code.toList = code.toList
        · have e2 : (p.urg == urg) = false := by
            simp only [beq_eq_false_iff_ne]
            exact fun q => hh' ⟨e1, q⟩
          have e1' : (p.code.toList == code.toList) = true := by simp [e1]
          clear hh' e1
          go_wp2_with fail
          go_round
          case rel => exact ⟨k + 1, by omega, by go_num, HT.out⟩
          case measure => simp [intOf]; omega
        · have e1' : (p.code.toList == code.toList) = false := by simp [e1]
          clear hh'
          go_wp2_with fail
          go_round
          case rel => exact ⟨k + 1, by omega, by go_num, HT.out⟩
          case measure => simp [intOf]; omega
      · have HT := Lib.hid (find_at HALL.out HPK.out hh)
        have e1 : (p.code.toList == code.toList) = true := by simp [hitP] at hh; simp [hh.1]
        have e2 : (p.urg == urg) = true := by simp [hitP] at hh; simp [hh.2]
        clear hh
        go_wp2_with fail
        go_ret
        have e : kindsL ps code urg = p.kinds := by simp [kindsL, pickP, HT.out]
        rw [e]
        exact ⟨_, _, rfl, HS.out, Below.refl _ _⟩
    · have hkk : k = ps.length := by omega
      subst hkk
      rw [List.take_length] at HALL
      have HN1 := Lib.hid (find_none HALL.out)
      go_wp2_with fail
      go_loop [8] (fun i => ∃ k : Nat, k ≤ ps.length ∧ i = .int .i64 k ∧ (∀ q ∈ ps.take k, hitP star urg q = false)) (fun i => ps.length - (intOf i).toNat)
      case atStart => exact ⟨0, Nat.zero_le _, rfl, by simp⟩
      case round =>
        clear HALL hlt hk
        obtain ⟨k, hk, rfl, hall⟩ := hrel
        have HALL := Lib.hid hall
        clear hall
        by_cases hlt : k < ps.length
        · obtain ⟨p, hpk⟩ : ∃ p, ps[k]? = some p := ⟨ps[k], by simp⟩
          obtain ⟨⟨b, o, rfl, hb, c0, c1, c2, hsl⟩, hwf⟩ := hp k p hpk
          have HPK := Lib.hid hpk
          have HS := Lib.hid hsl
          clear hpk hwf hsl
          have hst : star.toList = [42] := by rw [ByteArray.toList_eq]; rfl
          cases hh : hitP star urg p
          · have HT := Lib.hid (miss_snoc HALL.out HPK.out hh)
            have hh' : ¬ (p.code.toList = [42] ∧ p.urg = urg) := by
              intro q
              simp [hitP, hst, q.1, q.2] at hh
            clear hh hst
            by_cases e1 : p.code.toList = [42]
            · have e2 : (p.urg == urg) = false := by
                simp only [beq_eq_false_iff_ne]
                exact fun q => hh' ⟨e1, q⟩
              have e1' : (p.code.toList == [42]) = true := by simp [e1]
              clear hh'
              go_wp2_with fail
              go_round
              case rel => exact ⟨k + 1, by omega, by go_num, HT.out⟩
              case measure => simp [intOf]; omega
            · have e1' : (p.code.toList == [42]) = false := by simp [e1]
              clear hh'
              go_wp2_with fail
              go_round
              case rel => exact ⟨k + 1, by omega, by go_num, HT.out⟩
              case measure => simp [intOf]; omega
          · have HT := Lib.hid (find_at HALL.out HPK.out hh)
            have e0 : p.code.toList = [42] := by simp [hitP, hst] at hh; exact hh.1
            have e1 : (p.code.toList == [42]) = true := by simp [e0]
            have e2 : (p.urg == urg) = true := by simp [hitP] at hh; simp [hh.2]
            clear hh hst
            go_wp2_with fail
            go_ret
            have e : kindsL ps code urg = p.kinds := by simp [kindsL, pickP, HT.out, HN1.out]
            rw [e]
            exact ⟨_, _, rfl, HS.out, Below.refl _ _⟩
        · have hkk : k = ps.length := by omega
          subst hkk
          rw [List.take_length] at HALL
          have HN2 := Lib.hid (find_none HALL.out)
          go_wp2_with fail
          go_ret
          have e : kindsL ps code urg = [1] := by simp [kindsL, pickP, HN1.out, HN2.out]
          rw [e]
          exact ⟨_, _, rfl, Sl.lit w [.int .i64 1] 3 rfl, (Below.refl _ _).alloc (Nat.le_refl _) _⟩

theorem kindsL_len {ps : List Plan} {code : ByteArray} {urg : Int} (h : smallP ps = true) : (kindsL ps code urg).length ≤ 20 := by
  have hk20 : ∀ p ∈ ps, p.kinds.length ≤ 20 := fun p hpp => by
    simp [smallP, planSmall] at h
    exact (h.1 p hpp).2
  unfold kindsL
  cases hq : pickP ps code urg with
  | none => simp
  | some p =>
    unfold pickP at hq
    rw [Option.or_eq_some_iff] at hq
    rcases hq with hq | ⟨_, hq⟩
    · exact hk20 p (List.mem_of_find?_eq_some hq)
    · exact hk20 p (List.mem_of_find?_eq_some hq)

theorem Found.cases {P : Plan → Bool} {ps : List Plan} {r : Int} (h : (r = -1 ∧ ps.find? P = none) ∨ ∃ (i : Nat) (p : Plan), r = i ∧ ps[i]? = some p ∧ ps.find? P = some p) :
    (r = -1 ∧ ps.find? P = none) ∨ ∃ (i : Nat) (p : Plan), r = i ∧ i < ps.length ∧ ps[i]? = some p ∧ ps.find? P = some p :=
  h.imp_right fun ⟨i, p, h1, h2, h3⟩ => ⟨i, p, h1, (List.getElem?_eq_some_iff.1 h2).1, h2, h3⟩

set_option maxRecDepth 100000 in
theorem required_any (A : Option Addr) (c : Nat) (ps : List Plan) (code : ByteArray) (urg : Int) (w : World) (hp : Plans w w.heap.size A ps) (hl : ps.length ≤ 9223372036854775807) (hsm : smallP ps = true) :
    Calls Try.prog 35 #[.slice A ps.length c, .string code, .int .i64 urg] w (RetI 3 w (kindsL ps code urg)) := by
  have hk20 : ∀ p ∈ ps, p.kinds.length ≤ 20 := fun p hpp => by
    simp [smallP, planSmall] at hsm
    exact (hsm.1 p hpp).2
  have HK := Lib.hid hk20
  clear hk20 hsm
  go_enter Try.func35, Try.ntmps35
  go_wp2_with fail
  refine (find_any A c ps code urg w hp hl).mono ?_
  rintro e w1 ⟨r, rfl, hb1, hr⟩
  have hz1 := hb1.size
  have HB1 := Lib.hid hb1
  clear hb1
  rcases Found.cases hr with ⟨rfl, hf⟩ | ⟨i, p, rfl, hi, hpi, hf⟩
  · have HF := Lib.hid hf
    clear hr hf
    go_wp2_with fail
    refine (find_any A c ps star urg w1 ((hp.below HB1.out).more hz1) hl).mono ?_
    rintro e w2 ⟨r, rfl, hb2, hr⟩
    have hz2 := hb2.size
    have HB2 := Lib.hid (HB1.out.trans (hb2.mono hz1))
    clear hb2
    rcases Found.cases hr with ⟨rfl, hf⟩ | ⟨i, p, rfl, hi, hpi, hf⟩
    · have HE : Hid (kindsL ps code urg = [1]) := by show _ = _; simp [kindsL, pickP, HF.out, hf]
      clear hr hf
      go_wp2_with fail
      go_ret
      rw [HE.out]
      exact ⟨_, rfl, OwnV.lit w2 w.heap.size 3 [1] rfl HB2.out.size (by simp) _ rfl, HB2.out.alloc HB2.out.size _⟩
    · have HE : Hid (kindsL ps code urg = p.kinds) := by show _ = _; simp [kindsL, pickP, HF.out, hf]
      obtain ⟨⟨b, o, rfl, hb, c0, c1, c2, hsl⟩, hwf⟩ := (hp.below HB2.out) i p hpi
      have hkl := HK.out p (List.mem_of_getElem? hpi)
      have HW := Lib.hid hwf
      clear hr hf hpi hwf
      go_wp2_with fail
      refine (clone_any p.kA p.kc p.kinds w2 (hsl.more (Nat.le_trans hz1 hz2)) (by omega) HW.out.none_).mono ?_
      rintro e w3 ⟨v3, rfl, ho3, hb3⟩
      have HB3 := Lib.hid (HB2.out.trans (hb3.mono (Nat.le_trans hz1 hz2)))
      go_wp2_with fail
      go_ret
      rw [HE.out]
      exact ⟨_, rfl, ho3.base_le (Nat.le_trans hz1 hz2), HB3.out⟩
  · have HE : Hid (kindsL ps code urg = p.kinds) := by show _ = _; simp [kindsL, pickP, hf]
    obtain ⟨⟨b, o, rfl, hb, c0, c1, c2, hsl⟩, hwf⟩ := (hp.below HB1.out) i p hpi
    have hkl := HK.out p (List.mem_of_getElem? hpi)
    have HW := Lib.hid hwf
    clear hr hf hpi hwf
    go_wp2_with fail
    refine (clone_any p.kA p.kc p.kinds w1 (hsl.more hz1) (by omega) HW.out.none_).mono ?_
    rintro e w3 ⟨v3, rfl, ho3, hb3⟩
    have HB3 := Lib.hid (HB1.out.trans (hb3.mono hz1))
    go_wp2_with fail
    go_ret
    rw [HE.out]
    exact ⟨_, rfl, ho3.base_le hz1, HB3.out⟩
end Go.Proofs.Ytpomakmmjbimfaa
