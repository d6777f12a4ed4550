/-
  Slices of response plans: how they lie in memory, how they come in, and the plain functions over them.
  No condition: plain lemmas.
  samaritanref31.Small, samaritanref31.Kinds, responseplan.find, slices.Clone at []int, responseplan.RequiredKinds: what each returns, for every slice of plans.
  Incidents as they lie in memory and come in; the order in which they are served, and insertion.
-/
import Derived.Test.YtimijjhdgihobaaGreatDoorProg
import Derived.Test.YtimijjhdgihobaaGreatDoorMqe
import Derived.Test.YtimijjhdgihobaaGreatDoorMqf
import Derived.Deep.LoopGhost
import Derived.Lib.SliceRun
namespace Go.Proofs.YtimijjhdgihobaaGreatDoor
section
open Go.ChangeShapes Go.WideShapes Go.ChangeAt Go.RowKit

structure Plan where
  code : ByteArray
  urg : Int
  kA : Option Addr
  kinds : List Int
  kc : Nat

def PlanAt (w : World) (B : Nat) (A : Option Addr) (i : Nat) (p : Plan) : Prop :=
  ∃ b o, A = some ⟨b, o, none⟩ ∧ b < B ∧ w.cell? ⟨b, o + i * 3, none⟩ = some (.string p.code) ∧ w.cell? ⟨b, o + i * 3 + 1, none⟩ = some (.int .i64 p.urg) ∧
    w.cell? ⟨b, o + i * 3 + 2, none⟩ = some (.slice p.kA p.kinds.length p.kc) ∧ Sl w B p.kA (p.kinds.map (Value.int .i64))
structure PlanWf (p : Plan) : Prop where
  kinds : ∀ z ∈ p.kinds, (Lit.int .i64 z).wf = true
  urg : (Lit.int .i64 p.urg).wf = true
  code : p.code.size ≤ 9223372036854775807
  len : p.kinds.length ≤ p.kc
  cap : p.kc ≤ 9223372036854775807
  none_ : p.kA = none → p.kc = 0
def Plans (w : World) (B : Nat) (A : Option Addr) (ps : List Plan) : Prop := ∀ (i : Nat) (p : Plan), ps[i]? = some p → PlanAt w B A i p ∧ PlanWf p

theorem PlanAt.keep {w w' : World} {B : Nat} {A : Option Addr} {i : Nat} {p : Plan} (h : PlanAt w B A i p) (hk : ∀ q : Addr, q.block < B → w'.cell? q = w.cell? q) : PlanAt w' B A i p := by
  obtain ⟨b, o, e, hb, h1, h2, h3, h4⟩ := h
  exact ⟨b, o, e, hb, (hk _ hb).trans h1, (hk _ hb).trans h2, (hk _ hb).trans h3, h4.keep hk⟩
theorem Plans.below {w w' : World} {B : Nat} {A : Option Addr} {ps : List Plan} (h : Plans w B A ps) (hb : Below B w w') : Plans w' B A ps := fun i p hi => ⟨(h i p hi).1.keep (fun _ hq => hb.cell hq), (h i p hi).2⟩
theorem Plans.more {w : World} {B B' : Nat} {A : Option Addr} {ps : List Plan} (h : Plans w B A ps) (hB : B ≤ B') : Plans w B' A ps := fun i p hi => by
  obtain ⟨⟨b, o, e, hb, h1, h2, h3, h4⟩, h5⟩ := h i p hi
  exact ⟨⟨b, o, e, Nat.lt_of_lt_of_le hb hB, h1, h2, h3, h4.more hB⟩, h5⟩

theorem list_of {α : Type} (R : Nat → α → Prop) : ∀ n, (∀ i, i < n → ∃ x, R i x) → ∃ l : List α, l.length = n ∧ ∀ i x, l[i]? = some x → R i x := by
  intro n
  induction n with
  | zero => intro _; exact ⟨[], rfl, fun i x h => by simp at h⟩
  | succ n ih =>
    intro h
    obtain ⟨l, hl, hR⟩ := ih (fun i hi => h i (by omega))
    obtain ⟨x, hx⟩ := h n (by omega)
    refine ⟨l ++ [x], by simp [hl], fun i y hy => ?_⟩
    by_cases hi : i < l.length
    · rw [List.getElem?_append_left hi] at hy
      exact hR i y hy
    · have hlt : i < (l ++ [x]).length := (List.getElem?_eq_some_iff.1 hy).1
      simp at hlt
      have : i = l.length := by omega
      subst this
      simp at hy
      subst hy
      rw [hl]
      exact hx

section
variable {H : Type} {enc : TypeId × Value → H}
set_option maxRecDepth 100000 in
theorem open_plans {W : World} {r : Reach} {b0 : Nat} {v : Value} {d : DataW H} {p : List MemPlace} {base : Nat} {spare : Nat → Bool} {held : Bool}
    (hv : Value.okWide Tryz.prog W r b0 28 v) (h : DataW.Trod enc Tryz.prog W base spare held 28 v d p) :
    ∃ (A : Option Addr) (ps : List Plan) (cap : Nat), v = .slice A ps.length cap ∧ Plans W W.heap.size A ps ∧ ps.length ≤ cap ∧ cap ≤ 9223372036854775807 := by
  obtain ⟨A, len, cap, rfl⟩ := okWide_slice Tryz.underlying28 hv
  obtain ⟨fuel, hf⟩ := h
  obtain ⟨A', n, cap', e, h1, h2, h3, h4⟩ := recs_field Tryz.underlying28 Tryz.underlying101 (by kernel_rfl) (by kernel_rfl) (by decide) (by simpa [Value.cells] using hf)
  injection e with e1 e2 e3
  subst e1 e2 e3
  obtain ⟨ps, hl, hR⟩ := list_of (fun i q => PlanAt W W.heap.size A i q ∧ PlanWf q) len (fun i hi => by
    obtain ⟨b, o, e, hb, hg⟩ := h4 i hi
    obtain ⟨u0, y0, m0, c0, t0⟩ := hg 0 _ rfl
    obtain ⟨u1, y1, m1, c1, t1⟩ := hg 1 _ rfl
    obtain ⟨u2, y2, m2, c2, t2⟩ := hg 2 _ rfl
    obtain ⟨s, e0, _, hs⟩ := DataW.trod_string Tryz.underlying9 t0
    obtain ⟨z, e1, _, hz⟩ := DataW.trod_int Tryz.underlying3 t1
    obtain ⟨kA, zs, kc, rfl, k1, k2, k3, k4, k5⟩ := ints_field Tryz.underlying44 Tryz.underlying3 (by kernel_rfl) t2
    simp at e0 e1
    subst e0 e1
    exact ⟨⟨s, z, kA, zs, kc⟩, ⟨b, o, e, hb, c0, c1, c2, k1⟩, ⟨k2, hz, by unfold maxLen at hs; exact hs, k3, k4, k5⟩⟩)
  exact ⟨A, ps, cap, by rw [hl], hR, by omega, by omega⟩
end
end
section
open Go.RowKit Go.Maps

def planSmall (p : Plan) : Bool := decide (p.code.size ≤ 100 ∧ p.kinds.length ≤ 20)
def smallP (ps : List Plan) : Bool := ps.all planSmall && decide (ps.length ≤ 40)

set_option maxRecDepth 100000 in
theorem small_any (A : Option Addr) (c : Nat) (ps : List Plan) (w : World) (B : Nat) (hp : Plans w B A ps) (hl : ps.length ≤ 9223372036854775807) :
    Calls Tryz.prog 49 #[.slice A ps.length c] w fun e w' => e = .returned (.bool (smallP ps)) ∧ w = w' := by
  go_enter Tryz.func49, Tryz.ntmps49
  go_wp2_with fail
  go_loop [3] (fun i => ∃ k : Nat, k ≤ ps.length ∧ i = .int .i64 k ∧ (ps.take k).all planSmall = true) (fun i => ps.length - (intOf i).toNat)
  case atStart => exact ⟨0, Nat.zero_le _, rfl, rfl⟩
  case round =>
    obtain ⟨k, hk, rfl, hall⟩ := hrel
    have HALL := Lib.hid hall
    clear hall
    by_cases hlt : k < ps.length
    · obtain ⟨p, hpk⟩ : ∃ p, ps[k]? = some p := ⟨ps[k], by simp⟩
      obtain ⟨⟨b, o, rfl, hb, c0, c1, c2, _⟩, hwf⟩ := hp k p hpk
      have HPK := Lib.hid hpk
      have hcs := hwf.code
      have hks := hwf.len
      have hkc := hwf.cap
      clear hpk hwf
      have HNO : Hid (¬ (p.code.size ≤ 100 ∧ p.kinds.length ≤ 20) → smallP ps = false) := by
        intro h
        have : ps.all planSmall = false := by
          rw [List.all_eq_false]
          exact ⟨p, List.mem_of_getElem? HPK.out, by simp only [planSmall, h]; simp⟩
        simp [smallP, this]
      go_wp2_with fail
      · go_ret
        exact ⟨ret_bool (HNO.out (by omega)).symm, rfl⟩
      · go_ret
        exact ⟨ret_bool (HNO.out (by omega)).symm, rfl⟩
      · go_round
        case rel =>
          refine ⟨k + 1, by omega, by go_num, ?_⟩
          rw [take_snoc HPK.out]
          simp only [List.all_append, HALL.out]
          simp [planSmall]
          omega
        case measure => simp [intOf]; omega
    · have hkk : k = ps.length := by omega
      subst hkk
      rw [List.take_length] at HALL
      go_wp2_with fail
      go_ret
      refine ⟨ret_bool ?_, rfl⟩
      rw [smallP, HALL.out, Bool.true_and]
      exact decide_eq_decide.2 (by omega)

def hitP (code : ByteArray) (urg : Int) (p : Plan) : Bool := p.code.toList == code.toList && p.urg == urg
def star : ByteArray := ⟨#[42]⟩
def pickP (ps : List Plan) (code : ByteArray) (urg : Int) : Option Plan := (ps.find? (hitP code urg)).or (ps.find? (hitP star urg))
def kindsL (ps : List Plan) (code : ByteArray) (urg : Int) : List Int := match pickP ps code urg with
  | some p => p.kinds
  | none => [1]

theorem find_at {P : Plan → Bool} {ps : List Plan} {k : Nat} {p : Plan} (h : ∀ q ∈ ps.take k, P q = false) (hk : ps[k]? = some p) (hp : P p = true) : ps.find? P = some p := by
  have hlt := (List.getElem?_eq_some_iff.1 hk).1
  have e : ps = ps.take k ++ p :: ps.drop (k + 1) := by
    have h1 : ps[k] = p := (List.getElem?_eq_some_iff.1 hk).2
    rw [← h1, ← List.drop_eq_getElem_cons hlt, List.take_append_drop]
  rw [e, List.find?_append]
  have : (ps.take k).find? P = none := by
    rw [List.find?_eq_none]
    intro x hx
    simp [h x hx]
  rw [this]
  simp [hp]
theorem find_none {P : Plan → Bool} {ps : List Plan} (h : ∀ q ∈ ps, P q = false) : ps.find? P = none := by
  rw [List.find?_eq_none]
  intro x hx
  simp [h x hx]
theorem miss_snoc {P : Plan → Bool} {ps : List Plan} {k : Nat} {p : Plan} (h : ∀ q ∈ ps.take k, P q = false) (hk : ps[k]? = some p) (hp : P p = false) : ∀ q ∈ ps.take (k + 1), P q = false := by
  intro q hq
  rw [take_snoc hk] at hq
  simp at hq
  rcases hq with hq | rfl
  · exact h q hq
  · exact hp

set_option maxRecDepth 100000 in
theorem hit_any (s : ByteArray) (z : Int) (v2 : Value) (code : ByteArray) (urg : Int) (p1 p2 : Addr) (w : World) (h1 : w.cell? p1 = some (.string code)) (h2 : w.cell? p2 = some (.int .i64 urg)) :
    Calls Tryz.prog 105 #[.agg #[.string s, .int .i64 z, v2], .pointer (some p1), .pointer (some p2)] w fun e w' => e = .returned (.bool (s.toList == code.toList && z == urg)) ∧ Below w.heap.size w w' := by
  have g1 : ∀ o, (w.alloc o).cell? p1 = some (.string code) := fun o => (World.cell?_alloc_lt w o p1 (World.block_lt_of_cell? w _ h1)).trans h1
  have g2 : ∀ o, (w.alloc o).cell? p2 = some (.int .i64 urg) := fun o => (World.cell?_alloc_lt w o p2 (World.block_lt_of_cell? w _ h2)).trans h2
  go_enter Tryz.func105, Tryz.ntmps105
  go_wp2_with fail
  all_goals go_ret
  · have h : s.toList = code.toList := by assumption
    exact ⟨ret_bool (by simp [h]), (Below.refl _ _).alloc (Nat.le_refl _) _⟩
  · have h : ¬ s.toList = code.toList := by assumption
    exact ⟨ret_bool (by simp [h]), (Below.refl _ _).alloc (Nat.le_refl _) _⟩

/-- what find returns: the first plan that is met, or -1. -/
def Found (P : Plan → Bool) (ps : List Plan) (w : World) (e : Ending) (w' : World) : Prop :=
  ∃ r : Int, e = .returned (.int .i64 r) ∧ Below w.heap.size w w' ∧ ((r = -1 ∧ ps.find? P = none) ∨ ∃ (i : Nat) (p : Plan), r = i ∧ ps[i]? = some p ∧ ps.find? P = some p)

set_option maxRecDepth 100000 in
theorem indexFunc_any (A : Option Addr) (c : Nat) (ps : List Plan) (code : ByteArray) (urg : Int) (p1 p2 : Addr) (w : World) (hp : Plans w w.heap.size A ps) (hl : ps.length ≤ 9223372036854775807)
    (h1 : w.cell? p1 = some (.string code)) (h2 : w.cell? p2 = some (.int .i64 urg)) :
    Calls Tryz.prog 104 #[.slice A ps.length c, .func (Fn.func 105) #[] #[.pointer (some p1), .pointer (some p2)]] w (Found (hitP code urg) ps w) := by
  go_enter Tryz.func104, Tryz.ntmps104
  go_wp2_with fail
  go_loopw [8] (fun i wr => ∃ k : Nat, k ≤ ps.length ∧ i = .int .i64 k ∧ (∀ q ∈ ps.take k, hitP code urg q = false) ∧ Below w.heap.size w wr) (fun i _ => ps.length - (intOf i).toNat)
  case atStart => exact ⟨0, Nat.zero_le _, rfl, by simp, Below.refl _ _⟩
  case round =>
    obtain ⟨k, hk, rfl, hall, hnx⟩ := hrel
    have HALL := Lib.hid hall
    clear hall
    by_cases hlt : k < ps.length
    · obtain ⟨p, hpk⟩ : ∃ p, ps[k]? = some p := ⟨ps[k], by simp⟩
      obtain ⟨⟨b, o, rfl, hb, c0, c1, c2, _⟩, hwf⟩ := (hp.below hnx) k p hpk
      have HPK := Lib.hid hpk
      have g1 : wr.cell? p1 = some (.string code) := (hnx.cell (World.block_lt_of_cell? w _ h1)).trans h1
      have g2 : wr.cell? p2 = some (.int .i64 urg) := (hnx.cell (World.block_lt_of_cell? w _ h2)).trans h2
      clear hpk hwf
      go_wp2_with fail
      refine (hit_any p.code p.urg _ code urg p1 p2 wr g1 g2).mono ?_
      rintro e w1 ⟨rfl, hb1⟩
      have HB1 := Lib.hid (hnx.trans (hb1.mono hnx.size))
      rw [show (p.code.toList == code.toList && p.urg == urg) = hitP code urg p from rfl]
      clear hb1
      cases hh : hitP code urg p
      · have HT := Lib.hid (miss_snoc HALL.out HPK.out hh)
        clear hh
        go_wp2_with fail
        go_roundw
        case rel => exact ⟨k + 1, by omega, by go_num, HT.out, HB1.out⟩
        case measure => simp [intOf]; omega
      · have HT := Lib.hid (find_at HALL.out HPK.out hh)
        clear hh
        go_wp2_with fail
        go_ret
        exact ⟨k, rfl, HB1.out, .inr ⟨k, p, rfl, HPK.out, HT.out⟩⟩
    · have hkk : k = ps.length := by omega
      subst hkk
      rw [List.take_length] at HALL
      go_wp2_with fail
      go_ret
      exact ⟨-1, rfl, hnx, .inl ⟨rfl, find_none HALL.out⟩⟩

set_option maxRecDepth 100000 in
theorem find_any (A : Option Addr) (c : Nat) (ps : List Plan) (code : ByteArray) (urg : Int) (w : World) (hp : Plans w w.heap.size A ps) (hl : ps.length ≤ 9223372036854775807) :
    Calls Tryz.prog 87 #[.slice A ps.length c, .string code, .int .i64 urg] w (Found (hitP code urg) ps w) := by
  go_enter Tryz.func87, Tryz.ntmps87
  go_wp2_with fail
  have hb : Below w.heap.size w ((w.alloc (.cells #[.string code] 9)).alloc (.cells #[.int .i64 urg] 3)) := ((Below.refl _ _).alloc (Nat.le_refl _) _).alloc (by simp) _
  refine (indexFunc_any A c ps code urg ⟨w.heap.size, 0, none⟩ ⟨w.heap.size + 1, 0, none⟩ _ ((hp.below hb).more hb.size) hl (by simp) (by simp)).mono ?_
  rintro e w1 ⟨r, rfl, hb1, hr⟩
  have HB := Lib.hid (hb.trans (hb1.mono hb.size))
  have HR := Lib.hid hr
  clear hb hb1 hr
  go_wp2_with fail
  go_ret
  exact ⟨r, rfl, HB.out, HR.out⟩

set_option maxRecDepth 100000 in
theorem clone_any (A : Option Addr) (c : Nat) (zs : List Int) (w : World) (ha : Sl w w.heap.size A (zs.map (Value.int .i64))) (hl : zs.length ≤ 1099511627776) (hn : A = none → c = 0) :
    Calls Tryz.prog 66 #[.slice A zs.length c] w (RetI 3 w zs) := by
  have HN := Lib.hid hn
  clear hn
  have hnil := fun (W : World) (a : Option Addr) (n c : Nat) => Lib.run_eql_slice_nil (P := Tryz.prog) W 44 3 a n c 0 0 Tryz.underlying44
  have hE0 : OwnI (w.alloc (.cells #[] 3)) w.heap.size 3 (.slice (some ⟨w.heap.size, 0, none⟩) 0 0) [] := OwnV.lit w w.heap.size 3 [] (f := Value.int .i64) rfl (Nat.le_refl _) (by simp) #[] rfl
  have hs1 := ha.alloc (Nat.le_refl _) (.cells #[] 3)
  have hb1 : Below w.heap.size w (w.alloc (.cells #[] 3)) := (Below.refl _ _).alloc (Nat.le_refl _) _
  cases A with
  | none =>
    obtain rfl : zs = [] := by simpa using ha.nil_of_none
    obtain rfl := HN.out rfl
    go_enter Tryz.func66, Tryz.ntmps66
    go_wp2_with fail
    go_ret
    exact ⟨_, rfl, OwnV.nil _ _ _, Below.refl _ _⟩
  | some a =>
    go_enter Tryz.func66, Tryz.ntmps66
    go_wp2_with (refine wpList_append_sl _ rfl (.tmp 5) (.tmp 6) 44 rfl 3 Tryz.underlying44 int_info rfl (by omega) w.heap.size _ [] rfl hE0 w.heap.size _ _ _ zs rfl rfl HN.out hs1 (by intro y _; rfl) (by simp; omega) (by simp) ?_; intro v2 w2 hown2 hg2)
    go_ret
    exact ⟨_, rfl, hown2, hb1.grown hg2 hb1.size (fun j hj => hE0.ge_base j hj)⟩

/-- a slice that reads as zs in the world behind the call. -/
def RetS (w : World) (zs : List Int) (e : Ending) (w' : World) : Prop := ∃ A c, e = .returned (.slice A zs.length c) ∧ Sl w' w'.heap.size A (zs.map (Value.int .i64)) ∧ Below w.heap.size w w'

set_option maxRecDepth 100000 in
theorem kinds_any (A : Option Addr) (c : Nat) (ps : List Plan) (code : ByteArray) (urg : Int) (w : World) (hp : Plans w w.heap.size A ps) (hl : ps.length ≤ 9223372036854775807) :
    Calls Tryz.prog 27 #[.slice A ps.length c, .string code, .int .i64 urg] w (RetS w (kindsL ps code urg)) := by
  go_enter Tryz.func27, Tryz.ntmps27
  go_wp2_with fail
  go_loop [7] (fun i => ∃ k : Nat, k ≤ ps.length ∧ i = .int .i64 k ∧ (∀ q ∈ ps.take k, hitP code urg q = false)) (fun i => ps.length - (intOf i).toNat)
  case atStart => exact ⟨0, Nat.zero_le _, rfl, by simp⟩
  case round =>
    obtain ⟨k, hk, rfl, hall⟩ := hrel
    have HALL := Lib.hid hall
    clear hall
    by_cases hlt : k < ps.length
    · obtain ⟨p, hpk⟩ : ∃ p, ps[k]? = some p := ⟨ps[k], by simp⟩
      obtain ⟨⟨b, o, rfl, hb, c0, c1, c2, hsl⟩, hwf⟩ := hp k p hpk
      have HPK := Lib.hid hpk
      have HS := Lib.hid hsl
      clear hpk hwf hsl
      cases hh : hitP code urg p
      · have HT := Lib.hid (miss_snoc HALL.out HPK.out hh)
        have hh' : ¬ (p.code.toList = code.toList ∧ p.urg = urg) := by
          intro q
          simp [hitP, q.1, q.2] at hh
        clear hh
        by_cases e1 : p.code.toList = code.toList
        · have e2 : (p.urg == urg) = false := by
            simp only [beq_eq_false_iff_ne]
            exact fun q => hh' ⟨e1, q⟩
          have e1' : (p.code.toList == code.toList) = true := by simp [e1]
          clear hh' e1
          go_wp2_with fail
          go_round
          case rel => exact ⟨k + 1, by omega, by go_num, HT.out⟩
          case measure => simp [intOf]; omega
        · have e1' : (p.code.toList == code.toList) = false := by simp [e1]
          clear hh'
          go_wp2_with fail
          go_round
          case rel => exact ⟨k + 1, by omega, by go_num, HT.out⟩
          case measure => simp [intOf]; omega
      · have HT := Lib.hid (find_at HALL.out HPK.out hh)
        have e1 : (p.code.toList == code.toList) = true := by simp [hitP] at hh; simp [hh.1]
        have e2 : (p.urg == urg) = true := by simp [hitP] at hh; simp [hh.2]
        clear hh
        go_wp2_with fail
        go_ret
        have e : kindsL ps code urg = p.kinds := by simp [kindsL, pickP, HT.out]
        rw [e]
        exact ⟨_, _, rfl, HS.out, Below.refl _ _⟩
    · have hkk : k = ps.length := by omega
      subst hkk
      rw [List.take_length] at HALL
      have HN1 := Lib.hid (find_none HALL.out)
      go_wp2_with fail
      go_loop [8] (fun i => ∃ k : Nat, k ≤ ps.length ∧ i = .int .i64 k ∧ (∀ q ∈ ps.take k, hitP star urg q = false)) (fun i => ps.length - (intOf i).toNat)
      case atStart => exact ⟨0, Nat.zero_le _, rfl, by simp⟩
      case round =>
        clear HALL hlt hk
        obtain ⟨k, hk, rfl, hall⟩ := hrel
        have HALL := Lib.hid hall
        clear hall
        by_cases hlt : k < ps.length
        · obtain ⟨p, hpk⟩ : ∃ p, ps[k]? = some p := ⟨ps[k], by simp⟩
          obtain ⟨⟨b, o, rfl, hb, c0, c1, c2, hsl⟩, hwf⟩ := hp k p hpk
          have HPK := Lib.hid hpk
          have HS := Lib.hid hsl
          clear hpk hwf hsl
          have hst : star.toList = [42] := by rw [ByteArray.toList_eq]; rfl
          cases hh : hitP star urg p
          · have HT := Lib.hid (miss_snoc HALL.out HPK.out hh)
            have hh' : ¬ (p.code.toList = [42] ∧ p.urg = urg) := by
              intro q
              simp [hitP, hst, q.1, q.2] at hh
            clear hh hst
            by_cases e1 : p.code.toList = [42]
            · have e2 : (p.urg == urg) = false := by
                simp only [beq_eq_false_iff_ne]
                exact fun q => hh' ⟨e1, q⟩
              have e1' : (p.code.toList == [42]) = true := by simp [e1]
              clear hh'
              go_wp2_with fail
              go_round
              case rel => exact ⟨k + 1, by omega, by go_num, HT.out⟩
              case measure => simp [intOf]; omega
            · have e1' : (p.code.toList == [42]) = false := by simp [e1]
              clear hh'
              go_wp2_with fail
              go_round
              case rel => exact ⟨k + 1, by omega, by go_num, HT.out⟩
              case measure => simp [intOf]; omega
          · have HT := Lib.hid (find_at HALL.out HPK.out hh)
            have e0 : p.code.toList = [42] := by simp [hitP, hst] at hh; exact hh.1
            have e1 : (p.code.toList == [42]) = true := by simp [e0]
            have e2 : (p.urg == urg) = true := by simp [hitP] at hh; simp [hh.2]
            clear hh hst
            go_wp2_with fail
            go_ret
            have e : kindsL ps code urg = p.kinds := by simp [kindsL, pickP, HT.out, HN1.out]
            rw [e]
            exact ⟨_, _, rfl, HS.out, Below.refl _ _⟩
        · have hkk : k = ps.length := by omega
          subst hkk
          rw [List.take_length] at HALL
          have HN2 := Lib.hid (find_none HALL.out)
          go_wp2_with fail
          go_ret
          have e : kindsL ps code urg = [1] := by simp [kindsL, pickP, HN1.out, HN2.out]
          rw [e]
          exact ⟨_, _, rfl, Sl.lit w [.int .i64 1] 3 rfl, (Below.refl _ _).alloc (Nat.le_refl _) _⟩

theorem kindsL_len {ps : List Plan} {code : ByteArray} {urg : Int} (h : smallP ps = true) : (kindsL ps code urg).length ≤ 20 := by
  have hk20 : ∀ p ∈ ps, p.kinds.length ≤ 20 := fun p hpp => by
    simp [smallP, planSmall] at h
    exact (h.1 p hpp).2
  unfold kindsL
  cases hq : pickP ps code urg with
  | none => simp
  | some p =>
    unfold pickP at hq
    rw [Option.or_eq_some_iff] at hq
    rcases hq with hq | ⟨_, hq⟩
    · exact hk20 p (List.mem_of_find?_eq_some hq)
    · exact hk20 p (List.mem_of_find?_eq_some hq)

theorem Found.cases {P : Plan → Bool} {ps : List Plan} {r : Int} (h : (r = -1 ∧ ps.find? P = none) ∨ ∃ (i : Nat) (p : Plan), r = i ∧ ps[i]? = some p ∧ ps.find? P = some p) :
    (r = -1 ∧ ps.find? P = none) ∨ ∃ (i : Nat) (p : Plan), r = i ∧ i < ps.length ∧ ps[i]? = some p ∧ ps.find? P = some p :=
  h.imp_right fun ⟨i, p, h1, h2, h3⟩ => ⟨i, p, h1, (List.getElem?_eq_some_iff.1 h2).1, h2, h3⟩

set_option maxRecDepth 100000 in
theorem required_any (A : Option Addr) (c : Nat) (ps : List Plan) (code : ByteArray) (urg : Int) (w : World) (hp : Plans w w.heap.size A ps) (hl : ps.length ≤ 9223372036854775807) (hsm : smallP ps = true) :
    Calls Tryz.prog 64 #[.slice A ps.length c, .string code, .int .i64 urg] w (RetI 3 w (kindsL ps code urg)) := by
  have hk20 : ∀ p ∈ ps, p.kinds.length ≤ 20 := fun p hpp => by
    simp [smallP, planSmall] at hsm
    exact (hsm.1 p hpp).2
  have HK := Lib.hid hk20
  clear hk20 hsm
  go_enter Tryz.func64, Tryz.ntmps64
  go_wp2_with fail
  refine (find_any A c ps code urg w hp hl).mono ?_
  rintro e w1 ⟨r, rfl, hb1, hr⟩
  have hz1 := hb1.size
  have HB1 := Lib.hid hb1
  clear hb1
  rcases Found.cases hr with ⟨rfl, hf⟩ | ⟨i, p, rfl, hi, hpi, hf⟩
  · have HF := Lib.hid hf
    clear hr hf
    go_wp2_with fail
    refine (find_any A c ps star urg w1 ((hp.below HB1.out).more hz1) hl).mono ?_
    rintro e w2 ⟨r, rfl, hb2, hr⟩
    have hz2 := hb2.size
    have HB2 := Lib.hid (HB1.out.trans (hb2.mono hz1))
    clear hb2
    rcases Found.cases hr with ⟨rfl, hf⟩ | ⟨i, p, rfl, hi, hpi, hf⟩
    · have HE : Hid (kindsL ps code urg = [1]) := by show _ = _; simp [kindsL, pickP, HF.out, hf]
      clear hr hf
      go_wp2_with fail
      go_ret
      rw [HE.out]
      exact ⟨_, rfl, OwnV.lit w2 w.heap.size 3 [1] rfl HB2.out.size (by simp) _ rfl, HB2.out.alloc HB2.out.size _⟩
    · have HE : Hid (kindsL ps code urg = p.kinds) := by show _ = _; simp [kindsL, pickP, HF.out, hf]
      obtain ⟨⟨b, o, rfl, hb, c0, c1, c2, hsl⟩, hwf⟩ := (hp.below HB2.out) i p hpi
      have hkl := HK.out p (List.mem_of_getElem? hpi)
      have HW := Lib.hid hwf
      clear hr hf hpi hwf
      go_wp2_with fail
      refine (clone_any p.kA p.kc p.kinds w2 (hsl.more (Nat.le_trans hz1 hz2)) (by omega) HW.out.none_).mono ?_
      rintro e w3 ⟨v3, rfl, ho3, hb3⟩
      have HB3 := Lib.hid (HB2.out.trans (hb3.mono (Nat.le_trans hz1 hz2)))
      go_wp2_with fail
      go_ret
      rw [HE.out]
      exact ⟨_, rfl, ho3.base_le (Nat.le_trans hz1 hz2), HB3.out⟩
  · have HE : Hid (kindsL ps code urg = p.kinds) := by show _ = _; simp [kindsL, pickP, hf]
    obtain ⟨⟨b, o, rfl, hb, c0, c1, c2, hsl⟩, hwf⟩ := (hp.below HB1.out) i p hpi
    have hkl := HK.out p (List.mem_of_getElem? hpi)
    have HW := Lib.hid hwf
    clear hr hf hpi hwf
    go_wp2_with fail
    refine (clone_any p.kA p.kc p.kinds w1 (hsl.more hz1) (by omega) HW.out.none_).mono ?_
    rintro e w3 ⟨v3, rfl, ho3, hb3⟩
    have HB3 := Lib.hid (HB1.out.trans (hb3.mono hz1))
    go_wp2_with fail
    go_ret
    rw [HE.out]
    exact ⟨_, rfl, ho3.base_le hz1, HB3.out⟩
end
section
open Go.ChangeShapes Go.WideShapes Go.ChangeAt Go.RowKit

structure IncT where
  id : Int
  urg : Int
  code : ByteArray
  nA : Option Addr
  nodes : List Int
  nc : Nat
  dist : Int
  since : Int
  cA : Option Addr
  cl : Nat
  cc : Nat
  uA : Option Addr
  ul : Nat
  uc : Nat
  merged : Int
  closed : Bool
def cellsI (x : IncT) : List Value := [.int .i64 x.id, .int .i64 x.urg, .string x.code, .slice x.nA x.nodes.length x.nc, .int .i64 x.dist, .int .i64 x.since, .slice x.cA x.cl x.cc, .slice x.uA x.ul x.uc, .int .i64 x.merged, .bool x.closed]
theorem cellsI_len (x : IncT) : (cellsI x).length = 10 := rfl
theorem cellsI_one (x : IncT) : ∀ v ∈ cellsI x, v.oneCell' = true := by
  intro v hv
  simp only [cellsI, List.mem_cons, List.not_mem_nil, or_false] at hv
  rcases hv with rfl | rfl | rfl | rfl | rfl | rfl | rfl | rfl | rfl | rfl <;> rfl
abbrev IncsAt := RecsAt cellsI
abbrev OwnInc := OwnR cellsI 10
theorem inc_info : (Tryz.prog.info? 46).map (fun i => (i.zero, i.size, i.bytes)) = some (some (.agg #[.int .i64 0, .int .i64 0, .string ⟨#[]⟩, .slice none 0 0, .int .i64 0, .int .i64 0, .slice none 0 0, .slice none 0 0, .int .i64 0, .bool false]), 10, 136) := by kernel_rfl
/-- the nodes of each incident. -/
def NodesAt (w : World) (B : Nat) (xs : List IncT) : Prop := ∀ x ∈ xs, Sl w B x.nA (x.nodes.map (Value.int .i64))
theorem NodesAt.below {w w' : World} {B : Nat} {xs : List IncT} (h : NodesAt w B xs) (hb : Below B w w') : NodesAt w' B xs := fun x hx => (h x hx).below hb
theorem NodesAt.more {w : World} {B B' : Nat} {xs : List IncT} (h : NodesAt w B xs) (hB : B ≤ B') : NodesAt w B' xs := fun x hx => (h x hx).more hB
theorem NodesAt.sub {w : World} {B : Nat} {xs ys : List IncT} (h : NodesAt w B xs) (hs : ∀ y ∈ ys, y ∈ xs) : NodesAt w B ys := fun x hx => h x (hs x hx)
structure IncWf (x : IncT) : Prop where
  id : (Lit.int .i64 x.id).wf = true
  code : x.code.size ≤ 9223372036854775807
  nlen : x.nodes.length ≤ x.nc
  ncap : x.nc ≤ 9223372036854775807
  nnil : x.nA = none → x.nc = 0
  cl : x.cl ≤ 9223372036854775807
  ul : x.ul ≤ 9223372036854775807

theorem inc_cells {w : World} {b o : Nat} {x : IncT} (h : ∀ (j : Nat) (v : Value), (cellsI x)[j]? = some v → w.cell? ⟨b, o + j, none⟩ = some v) :
    w.cell? ⟨b, o, none⟩ = some (.int .i64 x.id) ∧ w.cell? ⟨b, o + 1, none⟩ = some (.int .i64 x.urg) ∧ w.cell? ⟨b, o + 2, none⟩ = some (.string x.code) ∧ w.cell? ⟨b, o + 3, none⟩ = some (.slice x.nA x.nodes.length x.nc) ∧ w.cell? ⟨b, o + 4, none⟩ = some (.int .i64 x.dist) ∧
    w.cell? ⟨b, o + 5, none⟩ = some (.int .i64 x.since) ∧ w.cell? ⟨b, o + 6, none⟩ = some (.slice x.cA x.cl x.cc) ∧ w.cell? ⟨b, o + 7, none⟩ = some (.slice x.uA x.ul x.uc) ∧ w.cell? ⟨b, o + 8, none⟩ = some (.int .i64 x.merged) ∧ w.cell? ⟨b, o + 9, none⟩ = some (.bool x.closed) :=
  ⟨h 0 _ rfl, h 1 _ rfl, h 2 _ rfl, h 3 _ rfl, h 4 _ rfl, h 5 _ rfl, h 6 _ rfl, h 7 _ rfl, h 8 _ rfl, h 9 _ rfl⟩
theorem inc_at {w : World} {B : Nat} {A : Option Addr} {xs : List IncT} (h : IncsAt w B A xs) {i : Nat} {x : IncT} (hi : xs[i]? = some x) : ∃ b o, A = some ⟨b, o, none⟩ ∧ b < B ∧ w.cell? ⟨b, o + i * 10, none⟩ = some (.int .i64 x.id) ∧ w.cell? ⟨b, o + i * 10 + 1, none⟩ = some (.int .i64 x.urg) ∧ w.cell? ⟨b, o + i * 10 + 2, none⟩ = some (.string x.code) ∧ w.cell? ⟨b, o + i * 10 + 3, none⟩ = some (.slice x.nA x.nodes.length x.nc) ∧ w.cell? ⟨b, o + i * 10 + 4, none⟩ = some (.int .i64 x.dist) ∧
    w.cell? ⟨b, o + i * 10 + 5, none⟩ = some (.int .i64 x.since) ∧ w.cell? ⟨b, o + i * 10 + 6, none⟩ = some (.slice x.cA x.cl x.cc) ∧ w.cell? ⟨b, o + i * 10 + 7, none⟩ = some (.slice x.uA x.ul x.uc) ∧ w.cell? ⟨b, o + i * 10 + 8, none⟩ = some (.int .i64 x.merged) ∧ w.cell? ⟨b, o + i * 10 + 9, none⟩ = some (.bool x.closed) := by
  obtain ⟨b, o, e, hb, hc⟩ := RecsAt.at cellsI_len h hi (by omega)
  exact ⟨b, o, e, hb, inc_cells hc⟩

section
variable {H : Type} {enc : TypeId × Value → H}
set_option maxRecDepth 100000 in
theorem open_incs {W : World} {r : Reach} {b0 : Nat} {v : Value} {d : DataW H} {p : List MemPlace} {base : Nat} {spare : Nat → Bool} {held : Bool}
    (hv : Value.okWide Tryz.prog W r b0 26 v) (h : DataW.Trod enc Tryz.prog W base spare held 26 v d p) :
    ∃ (A : Option Addr) (xs : List IncT) (cap : Nat), v = .slice A xs.length cap ∧ IncsAt W W.heap.size A xs ∧ NodesAt W W.heap.size xs ∧ (∀ x ∈ xs, IncWf x) ∧ xs.length ≤ cap ∧ cap ≤ 9223372036854775807 ∧ (A = none → cap = 0) := by
  obtain ⟨A, len, cap, rfl⟩ := okWide_slice Tryz.underlying26 hv
  obtain ⟨fuel, hf⟩ := h
  obtain ⟨A', n, cap', e, h1, h2, h3, h4⟩ := recs_field Tryz.underlying26 Tryz.underlying46 (by kernel_rfl) (by kernel_rfl) (by decide) (by simpa [Value.cells] using hf)
  injection e with e1 e2 e3
  subst e1 e2 e3
  obtain ⟨xs, hl, hR⟩ := list_of' (fun i x => (∃ b o, A = some ⟨b, o, none⟩ ∧ b < W.heap.size ∧ ∀ (j : Nat) (v : Value), (cellsI x)[j]? = some v → W.cell? ⟨b, o + i * 10 + j, none⟩ = some v) ∧ Sl W W.heap.size x.nA (x.nodes.map (Value.int .i64)) ∧ IncWf x) len (fun i hi => by
    obtain ⟨b, o, e, hb, hg⟩ := h4 i hi
    obtain ⟨u0, _, _, c0, t0⟩ := hg 0 _ rfl
    obtain ⟨u1, _, _, c1, t1⟩ := hg 1 _ rfl
    obtain ⟨u2, _, _, c2, t2⟩ := hg 2 _ rfl
    obtain ⟨u3, _, _, c3, t3⟩ := hg 3 _ rfl
    obtain ⟨u4, _, _, c4, t4⟩ := hg 4 _ rfl
    obtain ⟨u5, _, _, c5, t5⟩ := hg 5 _ rfl
    obtain ⟨u6, _, _, c6, t6⟩ := hg 6 _ rfl
    obtain ⟨u7, _, _, c7, t7⟩ := hg 7 _ rfl
    obtain ⟨u8, _, _, c8, t8⟩ := hg 8 _ rfl
    obtain ⟨u9, _, _, c9, t9⟩ := hg 9 _ rfl
    obtain ⟨z0, e0, _, k0⟩ := DataW.trod_int Tryz.underlying2 t0
    obtain ⟨z1, e1, _, _⟩ := DataW.trod_int Tryz.underlying3 t1
    obtain ⟨s, e2, _, hs⟩ := DataW.trod_string Tryz.underlying9 t2
    obtain ⟨nA, ns, nc, rfl, m1, m2, m3, m4, m5⟩ := ints_field Tryz.underlying44 Tryz.underlying3 (by kernel_rfl) t3
    obtain ⟨z4, e4, _, _⟩ := DataW.trod_int Tryz.underlying3 t4
    obtain ⟨z5, e5, _, _⟩ := DataW.trod_int Tryz.underlying2 t5
    obtain ⟨cA, cs, cc, rfl, p1, p2, p3, p4, p5⟩ := ints_field Tryz.underlying25 Tryz.underlying2 (by kernel_rfl) t6
    obtain ⟨uA, us, uc, rfl, q1, q2, q3, q4, q5⟩ := ints_field Tryz.underlying44 Tryz.underlying3 (by kernel_rfl) t7
    obtain ⟨z8, e8, _, _⟩ := DataW.trod_int Tryz.underlying2 t8
    obtain ⟨bl, e9, _⟩ := DataW.trod_bool Tryz.underlying4 t9
    simp at e0 e1 e2 e4 e5 e8 e9
    subst e0 e1 e2 e4 e5 e8 e9
    refine ⟨⟨z0, z1, s, nA, ns, nc, z4, z5, cA, cs.length, cc, uA, us.length, uc, z8, bl⟩, ⟨b, o, e, hb, fun j v hj => ?_⟩, m1, ⟨k0, by unfold maxLen at hs; exact hs, m3, m4, m5, by simp only; omega, by simp only; omega⟩⟩
    match j, hj with
    | 0, hj => cases hj; exact c0
    | 1, hj => cases hj; exact c1
    | 2, hj => cases hj; exact c2
    | 3, hj => cases hj; exact c3
    | 4, hj => cases hj; exact c4
    | 5, hj => cases hj; exact c5
    | 6, hj => cases hj; exact c6
    | 7, hj => cases hj; exact c7
    | 8, hj => cases hj; exact c8
    | 9, hj => cases hj; exact c9
    | j + 10, hj => exact absurd (List.getElem?_eq_some_iff.1 hj).1 (by simp [cellsI]))
  refine ⟨A, xs, cap, by rw [hl], recsAt_of cellsI_len (by omega) (fun i a hi => (hR i a hi).1), fun x hx => ?_, fun x hx => ?_, by omega, by omega, h3⟩
  · obtain ⟨i, hi⟩ := List.mem_iff_getElem?.1 hx
    exact (hR i x hi).2.1
  · obtain ⟨i, hi⟩ := List.mem_iff_getElem?.1 hx
    exact (hR i x hi).2.2
end

/-- a is served before b. -/
def ltI (a b : IncT) : Prop := a.urg < b.urg ∨ (a.urg = b.urg ∧ (a.since < b.since ∨ (a.since = b.since ∧ a.id < b.id)))
instance (a b : IncT) : Decidable (ltI a b) := by unfold ltI; infer_instance
def insL : List IncT → IncT → List IncT
  | [], x => [x]
  | y :: P, x => if ltI x y then x :: y :: P else y :: insL P x
def sortK (xs : List IncT) : List IncT := xs.foldl insL []
theorem sortK_snoc (xs : List IncT) (x : IncT) : sortK (xs ++ [x]) = insL (sortK xs) x := by simp [sortK]
theorem insL_len (P : List IncT) (x : IncT) : (insL P x).length = P.length + 1 := by
  induction P with
  | nil => rfl
  | cons y P ih =>
    rw [insL]
    split
    · simp
    · simp [ih]
theorem sortK_len (xs : List IncT) : (sortK xs).length = xs.length := by
  have key : ∀ (xs P : List IncT), (xs.foldl insL P).length = P.length + xs.length := by
    intro xs
    induction xs with
    | nil => intro P; simp
    | cons x xs ih => intro P; rw [List.foldl_cons, ih, insL_len, List.length_cons]; omega
  simpa [sortK] using key xs []
theorem mem_insL {P : List IncT} {x y : IncT} : y ∈ insL P x ↔ y = x ∨ y ∈ P := by
  induction P with
  | nil => simp [insL]
  | cons z P ih =>
    rw [insL]
    split
    · simp
    · rw [List.mem_cons, ih, List.mem_cons]
      constructor
      · rintro (h | h | h)
        · exact .inr (.inl h)
        · exact .inl h
        · exact .inr (.inr h)
      · rintro (h | h | h)
        · exact .inr (.inl h)
        · exact .inl h
        · exact .inr (.inr h)
theorem mem_sortK {xs : List IncT} {y : IncT} : y ∈ sortK xs ↔ y ∈ xs := by
  have key : ∀ (xs P : List IncT), y ∈ xs.foldl insL P ↔ y ∈ xs ∨ y ∈ P := by
    intro xs
    induction xs with
    | nil => intro P; simp
    | cons x xs ih =>
      intro P
      rw [List.foldl_cons, ih, mem_insL, List.mem_cons]
      constructor
      · rintro (h | h | h)
        · exact .inl (.inr h)
        · exact .inl (.inl h)
        · exact .inr h
      · rintro ((h | h) | h)
        · exact .inr (.inl h)
        · exact .inl h
        · exact .inr (.inr h)
  simpa [sortK] using key xs []
def SortedI (P : List IncT) : Prop := P.Pairwise (fun a b => ¬ ltI b a)
theorem ltI_trans {x y z : IncT} (h : ltI x y) (h2 : ¬ ltI z y) : ltI x z := by
  unfold ltI at *
  omega
theorem ltI_asymm {x y : IncT} (h : ltI x y) : ¬ ltI y x := by
  unfold ltI at *
  omega
theorem insL_sorted {P : List IncT} {x : IncT} (h : SortedI P) : SortedI (insL P x) := by
  induction P with
  | nil => exact List.pairwise_singleton _ _
  | cons y P ih =>
    rw [SortedI, List.pairwise_cons] at h
    rw [insL]
    split
    · rename_i hlt
      refine List.pairwise_cons.2 ⟨fun z hz => ?_, List.pairwise_cons.2 h⟩
      rcases List.mem_cons.1 hz with rfl | hz
      · exact ltI_asymm hlt
      · exact ltI_asymm (ltI_trans hlt (h.1 z hz))
    · rename_i hlt
      refine List.pairwise_cons.2 ⟨fun z hz => ?_, ih h.2⟩
      rcases mem_insL.1 hz with rfl | hz
      · exact hlt
      · exact h.1 z hz
theorem sortK_sorted (xs : List IncT) : SortedI (sortK xs) := by
  have key : ∀ (xs P : List IncT), SortedI P → SortedI (xs.foldl insL P) := by
    intro xs
    induction xs with
    | nil => intro P h; exact h
    | cons x xs ih => intro P h; rw [List.foldl_cons]; exact ih _ (insL_sorted h)
  exact key xs [] List.Pairwise.nil
/-- where the insertion from the right stops is where that from the left stops. -/
theorem insL_at {x : IncT} : ∀ {P : List IncT} {j : Nat}, SortedI P → j ≤ P.length → (∀ y ∈ P.drop j, ltI x y) → (∀ y, P[j - 1]? = some y → 0 < j → ¬ ltI x y) → P.take j ++ x :: P.drop j = insL P x
  | [], j, _, hj, _, _ => by
    obtain rfl : j = 0 := by simpa using hj
    rfl
  | y :: P, 0, _, _, h1, _ => by
    rw [insL, if_pos (h1 y (by simp))]
    rfl
  | y :: P, j + 1, hs, hj, h1, h2 => by
    rw [SortedI, List.pairwise_cons] at hs
    have hny : ¬ ltI x y := by
      intro hlt
      by_cases h0 : j = 0
      · subst h0
        exact h2 y rfl (by omega) hlt
      · obtain ⟨z, hz⟩ : ∃ z, (y :: P)[j + 1 - 1]? = some z := ⟨(y :: P)[j + 1 - 1]'(by simp at hj ⊢; omega), by simp⟩
        refine h2 z hz (by omega) (ltI_trans hlt (hs.1 z ?_))
        have : P[j - 1]? = some z := by
          obtain ⟨q, rfl⟩ : ∃ q, j = q + 1 := ⟨j - 1, by omega⟩
          simpa using hz
        exact List.mem_of_getElem? this
    have ih := insL_at (x := x) (P := P) (j := j) hs.2 (by simpa using hj) (fun z hz => h1 z (by simpa using hz)) (fun z hz h0 => h2 z (by
      obtain ⟨q, rfl⟩ : ∃ q, j = q + 1 := ⟨j - 1, by omega⟩
      simpa using hz) (by omega))
    rw [insL, if_neg hny, ← ih]
    rfl

/-- the reference's insertion. -/
def stepF (x : IncT) (s : Bool × List IncT) (y : IncT) : Bool × List IncT := if s.1 = false ∧ ltI x y then (true, s.2 ++ [x] ++ [y]) else (s.1, s.2 ++ [y])
def endF (x : IncT) (s : Bool × List IncT) : List IncT := if s.1 = false then s.2 ++ [x] else s.2
theorem foldF_true (x : IncT) : ∀ (P N : List IncT), P.foldl (stepF x) (true, N) = (true, N ++ P)
  | [], N => by simp
  | y :: P, N => by
    rw [List.foldl_cons]
    have : stepF x (true, N) y = (true, N ++ [y]) := by simp [stepF]
    rw [this, foldF_true x P]
    simp
theorem endF_fold (x : IncT) : ∀ (P N : List IncT), endF x (P.foldl (stepF x) (false, N)) = N ++ insL P x
  | [], N => by simp [endF, insL]
  | y :: P, N => by
    rw [List.foldl_cons]
    by_cases h : ltI x y
    · have : stepF x (false, N) y = (true, N ++ [x] ++ [y]) := by simp [stepF, h]
      rw [this, foldF_true, insL, if_pos h]
      simp [endF]
    · have : stepF x (false, N) y = (false, N ++ [y]) := by simp [stepF, h]
      rw [this, endF_fold x P, insL, if_neg h]
      simp
theorem stepF_snoc (x : IncT) (P : List IncT) (y : IncT) (s : Bool × List IncT) : (P ++ [y]).foldl (stepF x) s = stepF x (P.foldl (stepF x) s) y := by simp

theorem fold_len (x : IncT) : ∀ (P : List IncT) (b : Bool) (N : List IncT), (P.foldl (stepF x) (b, N)).2.length ≤ N.length + 2 * P.length
  | [], b, N => by simp
  | y :: P, b, N => by
    rw [List.foldl_cons]
    unfold stepF
    split
    · have := fold_len x P true (N ++ [x] ++ [y])
      simp only [List.length_append, List.length_singleton] at this
      unfold stepF at this
      simp only [List.length_cons]
      omega
    · have := fold_len x P b (N ++ [y])
      simp only [List.length_append, List.length_singleton] at this
      unfold stepF at this
      simp only [List.length_cons]
      omega
def openI (x : IncT) : Bool := !x.closed && x.merged == 0
end
end Go.Proofs.YtimijjhdgihobaaGreatDoor
