/-
  samaritanref12.more: lines that are refused; questions (printed by genpqmo.py).
-/
import Derived.Test.YtbbklideciappaaGreatDoorPqApp
import Derived.Test.YtbbklideciappaaGreatDoorPqJE
import Derived.Deep.RegionHeld3
namespace Go.Proofs.YtbbklideciappaaGreatDoor
open Go.RowKit Go.Maps

theorem recs_row {α : Type} {cs : α → List Value} {W : World} {B f : Nat} {vs : Array Value} {t : TypeId} {fr : Nat × Nat} {xs : List α} (h : W.heap[f]? = some (.cells vs t fr)) (hv : vs = (xs.flatMap cs).toArray) (hf : f < B) : RecsAt cs W B (some ⟨f, 0, none⟩) xs := fun j u hj => by
  refine ⟨f, 0, rfl, hf, ?_⟩
  rw [Nat.zero_add]
  refine (cell_of_row W f j _ _ _ h).trans ?_
  rw [hv]
  simpa using hj
theorem own_set {α : Type} {cs : α → List Value} {s : Nat} {W : World} {base : Nat} {e : TypeId} {v : Value} {xs : List α} (h : OwnR cs s W base e v xs) {b : Nat} (hb : b < base) (j : Nat) (u : Value) : OwnR cs s (W.setCell ⟨b, j, none⟩ u) base e v xs :=
  h.setCell_other (fun q => by have h1 := h.ge_base _ q; exact absurd (show base ≤ b from h1) (by omega)) u
theorem own_some {α : Type} {cs : α → List Value} {s : Nat} {W : World} {base : Nat} {e : TypeId} {v : Value} {xs : List α} (h : OwnR cs s W base e v xs) (hx : xs ≠ []) : ∃ g c, v = .slice (some ⟨g, 0, none⟩) xs.length c ∧ base ≤ g ∧ g < W.heap.size := by
  rcases h.2 with ⟨_, e2⟩ | ⟨g, cap, cur, e1, hb, hh, _⟩
  · exact absurd (List.length_eq_zero_iff.1 e2) hx
  · exact ⟨g, cap, e1, hb, (Array.getElem?_eq_some_iff.1 hh).1⟩
/-- nil rows have no capacity; a row's capacity is no less than its length. -/
def NilOk (p : Prot) : Prop := ((p.qA = none → p.qc = 0) ∧ ∀ q ∈ p.qs, q.aA = none → q.ac = 0) ∧ (p.qs.length ≤ p.qc ∧ p.qc ≤ 9223372036854775807) ∧ ∀ q ∈ p.qs, q.ans.length ≤ q.ac ∧ q.ac ≤ 9223372036854775807
/-- the rows lie at block B or behind it. -/
def Far (B : Nat) (p : Prot) : Prop := (∀ b o, p.qA = some ⟨b, o, none⟩ → B ≤ b) ∧ ∀ q ∈ p.qs, ∀ b o, q.aA = some ⟨b, o, none⟩ → B ≤ b
/-- what more returns. -/
def RetMo (p : Prot) (k : Nat) (l : List UInt8) (w : World) (e : Ending) (w' : World) : Prop :=
  ∃ p' b, e = .returned (.tuple #[protV p'.name p'.ver p'.qA p'.qs.length p'.qc, .bool b]) ∧ ((b = true ∧ StepL (conOf p) l (conOf p') ∧ ProtAt w' w'.heap.size p' ∧ CntLe p' (k + 1) ∧ NilOk p' ∧ ∀ B, B ≤ w.heap.size → Far B p → Far B p') ∨ (b = false ∧ ∀ d, ¬ StepL (conOf p) l d)) ∧ Below w.heap.size w w'
theorem pre_eq {s : ByteArray} {c : UInt8} (h : s.data.toList.take 2 = [c, 32]) : ∃ r, s.data.toList = c :: 32 :: r ∧ r = s.data.toList.drop 2 := by
  have e := (List.take_append_drop 2 s.data.toList).symm
  rw [h] at e
  exact ⟨_, e, rfl⟩
theorem pre_ne {s : ByteArray} {c : UInt8} (h : s.data.toList.take 2 ≠ [c, 32]) (r : List UInt8) : s.data.toList ≠ c :: 32 :: r := fun e => h (by rw [e]; rfl)
theorem two_free (w : World) (vs us : Array Value) (t u : TypeId) (j : Nat) : ((w.alloc (.cells vs t)).alloc (.cells us u)).frozen? ⟨w.heap.size, j, none⟩ = false ∧ ((w.alloc (.cells vs t)).alloc (.cells us u)).frozen? ⟨w.heap.size + 1, j, none⟩ = false := by
  have h2 := free_new (w.alloc (.cells vs t)) us u j
  have e : (w.alloc (.cells vs t)).heap.size = w.heap.size + 1 := by simp
  rw [e] at h2
  exact ⟨((below_new (w.alloc (.cells vs t)) (.cells us u)).frozen (p := ⟨w.heap.size, j, none⟩) (lt_new _ _)).trans (free_new w vs t j), h2⟩
set_option maxRecDepth 100000 in
set_option maxHeartbeats 8000000 in
theorem more_no (w : World) (p : Prot) (k : Nat) (hm : p.qs.length ≤ 1000000000) (s : ByteArray) (hs : s.size ≤ 1000000000)
    (hq : ∀ r, s.data.toList = 63 :: 32 :: r → ¬ PhraseOk (bs r) 200) (ha : ∀ r, s.data.toList = 45 :: 32 :: r → p.qs = []) (hN : ∀ d, ¬ StepL (conOf p) s.data.toList d) :
    Calls Tryz.prog 32 #[.agg #[.string p.name, .int .i64 p.ver, .slice p.qA p.qs.length p.qc], .string s] w (RetMo p k s.data.toList w) := by
  obtain ⟨F1, F2⟩ := fresh33 w (.string p.name) (.int .i64 p.ver) (.slice p.qA p.qs.length p.qc) (.string ⟨#[]⟩) (.int .i64 0) (.slice none 0 0) 24 24
  have F3 := two_free w #[.string p.name, .int .i64 p.ver, .slice p.qA p.qs.length p.qc] #[.string ⟨#[]⟩, .int .i64 0, .slice none 0 0] 24 24
  obtain ⟨W0, hW0⟩ : ∃ W0, W0 = (w.alloc (.cells #[.string p.name, .int .i64 p.ver, .slice p.qA p.qs.length p.qc] 24)).alloc (.cells #[.string ⟨#[]⟩, .int .i64 0, .slice none 0 0] 24) := ⟨_, rfl⟩
  rw [← hW0] at F1 F2 F3
  have hb0 : Below w.heap.size w W0 := by rw [hW0]; exact ((Below.refl _ _).alloc (Nat.le_refl _) _).alloc (by simp) _
  have hz0 : w.heap.size + 1 < W0.heap.size := by rw [hW0]; simp
  have f0 := F1 0 (.string p.name) rfl
  have f1 := F1 1 (.int .i64 p.ver) rfl
  have f2 := F1 2 (.slice p.qA p.qs.length p.qc) rfl
  have r0 := F2 0 (.string ⟨#[]⟩) rfl
  have r1 := F2 1 (.int .i64 0) rfl
  have r2 := F2 2 (.slice none 0 0) rfl
  have t2 := (F3 2).1
  have u0 := (F3 0).2
  have u1 := (F3 1).2
  have u2 := (F3 2).2
  have HB := Lib.hid hb0
  have hnz : ¬ w.heap.size = w.heap.size + 1 := by omega
  have hnz' : ¬ w.heap.size + 1 = w.heap.size := by omega
  have HN := Lib.hid hN
  have hml : IntKind.i64.wrap ((p.qs.length : Int) - 1) = (p.qs.length : Int) - 1 := IntWalk.i64_in _ (by omega)
  have HFIN : Hid (∀ W', Below w.heap.size w W' → RetMo p k s.data.toList w (.returned (.tuple #[protV p.name p.ver p.qA p.qs.length p.qc, .bool false])) W') := Lib.hid (fun W' hb => ⟨p, false, rfl, .inr ⟨rfl, HN.out⟩, hb⟩)
  clear F1 F2 F3 hb0 hN
  by_cases h2 : 2 ≤ s.size
  rotate_left
  · have d1 : decide ((2 : Int) < (s.size : Int)) = false := decide_eq_false (by omega)
    have d2 : decide ((s.size : Int) < 2) = true := decide_eq_true (by omega)
    clear hq ha
    obtain ⟨_, G2⟩ := fresh33 w (.string p.name) (.int .i64 p.ver) (.slice p.qA p.qs.length p.qc) (.string p.name) (.int .i64 p.ver) (.slice p.qA p.qs.length p.qc) 24 24
    have g0 := G2 0 (.string p.name) rfl
    have g1 := G2 1 (.int .i64 p.ver) rfl
    have g2 := G2 2 (.slice p.qA p.qs.length p.qc) rfl
    clear G2
    go_enter Tryz.func32, Tryz.ntmps32
    go_wp2_with fail
    refine bodyPost_ret (v := .tuple #[protV p.name p.ver p.qA p.qs.length p.qc, .bool false]) (by simp [results, Tryz.results32, go_sem, g0, g1, g2, protV]) rfl ?_
    exact HFIN.out _ (((Below.refl _ _).alloc (Nat.le_refl _) _).alloc (by simp) _)
  have d2 : decide ((s.size : Int) < 2) = false := decide_eq_false (by omega)
  have h2' : (2 : Int) ≤ (s.size : Int) := by omega
  obtain ⟨P2, hP2⟩ : ∃ T, s.extract 0 2 = T := ⟨_, rfl⟩
  obtain ⟨R2, hR2⟩ : ∃ T, s.extract 2 s.size = T := ⟨_, rfl⟩
  have hPd : P2.data.toList = s.data.toList.take 2 := by rw [← hP2]; exact take_ext s 2
  have hRd : R2.data.toList = s.data.toList.drop 2 := by rw [← hR2]; exact drop_ext s 2
  have HPH := Lib.hid (fun X => phrase_any R2 200 (by omega) 200 rfl X)
  by_cases hm2 : P2.data.toList = [45, 32]
  · have e1 : (P2.toList == [45, 32]) = true := eq_lit.trans (decide_eq_true hm2)
    have e1' : (P2.toList != [45, 32]) = false := by unfold bne; rw [e1]; rfl
    have e2 : (P2.toList == [63, 32]) = false := eq_lit.trans (decide_eq_false (by rw [hm2]; decide))
    have hl0 : p.qs.length = 0 := by
      obtain ⟨r, hr, _⟩ := pre_eq (hPd.symm.trans hm2)
      rw [ha r hr]
      rfl
    have dl : decide ((p.qs.length : Int) - 1 < 0) = true := decide_eq_true (by omega)
    by_cases h3 : 2 < s.size
    · have d1 : decide ((2 : Int) < (s.size : Int)) = true := decide_eq_true (by omega)
      clear hq ha hm2 hPd hRd h3 hl0
      obtain ⟨_, G2⟩ := fresh33 w (.string p.name) (.int .i64 p.ver) (.slice p.qA p.qs.length p.qc) (.string p.name) (.int .i64 p.ver) (.slice p.qA p.qs.length p.qc) 24 24
      have g0 := G2 0 (.string p.name) rfl
      have g1 := G2 1 (.int .i64 p.ver) rfl
      have g2 := G2 2 (.slice p.qA p.qs.length p.qc) rfl
      clear G2
      go_enter Tryz.func32, Tryz.ntmps32
      go_wp2_with fail
      refine bodyPost_ret (v := .tuple #[protV p.name p.ver p.qA p.qs.length p.qc, .bool false]) (by simp [results, Tryz.results32, go_sem, g0, g1, g2, protV]) rfl ?_
      exact HFIN.out _ (((Below.refl _ _).alloc (Nat.le_refl _) _).alloc (by simp) _)
    · have d1 : decide ((2 : Int) < (s.size : Int)) = false := decide_eq_false (by omega)
      clear hq ha hm2 hPd hRd h3 hl0
      obtain ⟨_, G2⟩ := fresh33 w (.string p.name) (.int .i64 p.ver) (.slice p.qA p.qs.length p.qc) (.string p.name) (.int .i64 p.ver) (.slice p.qA p.qs.length p.qc) 24 24
      have g0 := G2 0 (.string p.name) rfl
      have g1 := G2 1 (.int .i64 p.ver) rfl
      have g2 := G2 2 (.slice p.qA p.qs.length p.qc) rfl
      clear G2
      go_enter Tryz.func32, Tryz.ntmps32
      go_wp2_with fail
      refine bodyPost_ret (v := .tuple #[protV p.name p.ver p.qA p.qs.length p.qc, .bool false]) (by simp [results, Tryz.results32, go_sem, g0, g1, g2, protV]) rfl ?_
      exact HFIN.out _ (((Below.refl _ _).alloc (Nat.le_refl _) _).alloc (by simp) _)
  · have e1 : (P2.toList == [45, 32]) = false := eq_lit.trans (decide_eq_false hm2)
    have e1' : (P2.toList != [45, 32]) = true := by unfold bne; rw [e1]; rfl
    by_cases h3 : 2 < s.size
    · have d1 : decide ((2 : Int) < (s.size : Int)) = true := decide_eq_true (by omega)
      by_cases hq2 : P2.data.toList = [63, 32]
      · have e2 : (P2.toList == [63, 32]) = true := eq_lit.trans (decide_eq_true hq2)
        have hnp : ¬ PhraseOk R2 200 := by
          obtain ⟨r, hr, hr2⟩ := pre_eq (hPd.symm.trans hq2)
          have h4 := hq r hr
          rwa [hr2, ← hRd, ← bs_of] at h4
        rw [tb_false hnp] at HPH
        clear hq ha hm2 hPd hRd h3 hq2 hnp
        go_enter Tryz.func32, Tryz.ntmps32
        go_wp2_with fail
        rw [← hW0]
        clear hW0
        refine (HPH.out _).mono ?_
        rintro e w' ⟨rfl, rfl⟩
        go_wp2_with fail
        refine bodyPost_ret (v := .tuple #[protV p.name p.ver p.qA p.qs.length p.qc, .bool false]) (by simp [results, Tryz.results32, go_sem, r0, r1, r2, protV]) rfl ?_
        exact HFIN.out _ (below_set3 HB.out (Nat.le_succ _) _ _ _)
      · have e2 : (P2.toList == [63, 32]) = false := eq_lit.trans (decide_eq_false hq2)
        clear hq ha hm2 hPd hRd h3 hq2
        obtain ⟨_, G2⟩ := fresh33 w (.string p.name) (.int .i64 p.ver) (.slice p.qA p.qs.length p.qc) (.string p.name) (.int .i64 p.ver) (.slice p.qA p.qs.length p.qc) 24 24
        have g0 := G2 0 (.string p.name) rfl
        have g1 := G2 1 (.int .i64 p.ver) rfl
        have g2 := G2 2 (.slice p.qA p.qs.length p.qc) rfl
        clear G2
        go_enter Tryz.func32, Tryz.ntmps32
        go_wp2_with fail
        refine bodyPost_ret (v := .tuple #[protV p.name p.ver p.qA p.qs.length p.qc, .bool false]) (by simp [results, Tryz.results32, go_sem, g0, g1, g2, protV]) rfl ?_
        exact HFIN.out _ (((Below.refl _ _).alloc (Nat.le_refl _) _).alloc (by simp) _)
    · have d1 : decide ((2 : Int) < (s.size : Int)) = false := decide_eq_false (by omega)
      clear hq ha hm2 hPd hRd h3
      obtain ⟨_, G2⟩ := fresh33 w (.string p.name) (.int .i64 p.ver) (.slice p.qA p.qs.length p.qc) (.string p.name) (.int .i64 p.ver) (.slice p.qA p.qs.length p.qc) 24 24
      have g0 := G2 0 (.string p.name) rfl
      have g1 := G2 1 (.int .i64 p.ver) rfl
      have g2 := G2 2 (.slice p.qA p.qs.length p.qc) rfl
      clear G2
      go_enter Tryz.func32, Tryz.ntmps32
      go_wp2_with fail
      refine bodyPost_ret (v := .tuple #[protV p.name p.ver p.qA p.qs.length p.qc, .bool false]) (by simp [results, Tryz.results32, go_sem, g0, g1, g2, protV]) rfl ?_
      exact HFIN.out _ (((Below.refl _ _).alloc (Nat.le_refl _) _).alloc (by simp) _)
theorem fin_ques {w W : World} {p : Prot} {k : Nat} {T : ByteArray} {l : List UInt8} {base : Nat} {A2 : Option Addr} {n2 c2 : Nat} (h : ProtAt w w.heap.size p) (hc : CntLe p k) (hn : NilOk p) (hst : StepL (conOf p) l (addQ (conOf p) T)) (hbase : w.heap.size ≤ base) (ho : OwnR cellsQ 2 W base 43 (.slice A2 n2 c2) (p.qs ++ [⟨T, none, [], 0⟩])) (hn2 : n2 = (p.qs ++ [(⟨T, none, [], 0⟩ : Ques)]).length) (hb : Below w.heap.size w W) :
    RetMo p k l w (.returned (.tuple #[protV p.name p.ver A2 n2 c2, .bool true])) W := by
  subst hn2
  obtain ⟨A, c, e, hrow⟩ := OwnR.sl ho
  injection e with e1 e2 e3
  subst e1 e3
  have hcaps := OwnR.caps ho
  refine ⟨⟨p.name, p.ver, A2, p.qs ++ [⟨T, none, [], 0⟩], c2⟩, true, rfl, .inl ⟨rfl, ?_, ⟨hrow, fun q hq => ?_⟩, ⟨?_, fun q hq => ?_⟩, ⟨⟨hcaps.2.2.2, fun q hq => ?_⟩, ⟨hcaps.2.1, hcaps.2.2.1⟩, fun q hq => ?_⟩, fun B hB hf => ⟨fun b o e => ?_, fun q hq => ?_⟩⟩, hb⟩
  · rw [show conOf ⟨p.name, p.ver, A2, p.qs ++ [⟨T, none, [], 0⟩], c2⟩ = addQ (conOf p) T from conOf_q p T A2 c2]
    exact hst
  · rcases List.mem_append.1 hq with hq | hq
    · exact (RecsAt.below (h.ans q hq) hb).more hb.size
    · rw [List.mem_singleton.1 hq]
      exact RecsAt.empty
  · have := hc.1
    simp
    omega
  · rcases List.mem_append.1 hq with hq | hq
    · have := hc.2 q hq
      omega
    · rw [List.mem_singleton.1 hq]
      exact Nat.zero_le _
  · rcases List.mem_append.1 hq with hq | hq
    · exact hn.1.2 q hq
    · rw [List.mem_singleton.1 hq]
      exact fun _ => rfl
  · rcases List.mem_append.1 hq with hq | hq
    · exact hn.2.2 q hq
    · rw [List.mem_singleton.1 hq]
      exact ⟨Nat.le_refl _, Nat.zero_le _⟩
  · obtain ⟨g, c, e1, h1, _⟩ := own_some ho (by simp)
    injection e1 with e1 _ _
    have e2 : some (⟨g, 0, none⟩ : Addr) = some ⟨b, o, none⟩ := e1.symm.trans e
    injection e2 with e2
    injection e2 with e2 _
    omega
  · rcases List.mem_append.1 hq with hq | hq
    · exact hf.2 q hq
    · rw [List.mem_singleton.1 hq]
      intro b o e
      cases e
set_option maxRecDepth 100000 in
set_option maxHeartbeats 16000000 in
theorem more_ques (w : World) (p : Prot) (k : Nat) (h : ProtAt w w.heap.size p) (hc : CntLe p k) (hk : k ≤ 1000000000) (hn : NilOk p) (s : ByteArray) (hs : s.size ≤ 1000000000) (r : List UInt8) (hr : s.data.toList = 63 :: 32 :: r) (hph : PhraseOk (bs r) 200) :
    Calls Tryz.prog 32 #[.agg #[.string p.name, .int .i64 p.ver, .slice p.qA p.qs.length p.qc], .string s] w (RetMo p k s.data.toList w) := by
  obtain ⟨F1, F2⟩ := fresh33 w (.string p.name) (.int .i64 p.ver) (.slice p.qA p.qs.length p.qc) (.string ⟨#[]⟩) (.int .i64 0) (.slice none 0 0) 24 24
  have F3 := two_free w #[.string p.name, .int .i64 p.ver, .slice p.qA p.qs.length p.qc] #[.string ⟨#[]⟩, .int .i64 0, .slice none 0 0] 24 24
  obtain ⟨W0, hW0⟩ : ∃ W0, W0 = (w.alloc (.cells #[.string p.name, .int .i64 p.ver, .slice p.qA p.qs.length p.qc] 24)).alloc (.cells #[.string ⟨#[]⟩, .int .i64 0, .slice none 0 0] 24) := ⟨_, rfl⟩
  rw [← hW0] at F1 F2 F3
  have hb0 : Below w.heap.size w W0 := by rw [hW0]; exact ((Below.refl _ _).alloc (Nat.le_refl _) _).alloc (by simp) _
  have hz0 : w.heap.size + 1 < W0.heap.size := by rw [hW0]; simp
  have f0 := F1 0 (.string p.name) rfl
  have f1 := F1 1 (.int .i64 p.ver) rfl
  have f2 := F1 2 (.slice p.qA p.qs.length p.qc) rfl
  have r0 := F2 0 (.string ⟨#[]⟩) rfl
  have r1 := F2 1 (.int .i64 0) rfl
  have r2 := F2 2 (.slice none 0 0) rfl
  have t2 := (F3 2).1
  have u0 := (F3 0).2
  have u1 := (F3 1).2
  have u2 := (F3 2).2
  have HB := Lib.hid hb0
  have hnz : ¬ w.heap.size = w.heap.size + 1 := by omega
  have hnz' : ¬ w.heap.size + 1 = w.heap.size := by omega
  have HH := Lib.hid (And.intro h (And.intro hc (And.intro hk (And.intro hn hr))))
  have HROWS := Lib.hid (show RecsAt cellsQ W0 w.heap.size p.qA p.qs from RecsAt.below h.row hb0)
  have hsz : r.length + 2 = s.size := by rw [← size_len s, hr]; rfl
  have hr1 : 1 ≤ r.length := by have := hph.1.1.1; rwa [bs_size] at this
  have d1 : decide ((2 : Int) < (s.size : Int)) = true := decide_eq_true (by omega)
  have h2' : (2 : Int) ≤ (s.size : Int) := by omega
  obtain ⟨P2, hP2⟩ : ∃ T, s.extract 0 2 = T := ⟨_, rfl⟩
  obtain ⟨T, hT⟩ : ∃ T, s.extract 2 s.size = T := ⟨_, rfl⟩
  have hPd : P2.data.toList = [63, 32] := by rw [← hP2, take_ext, hr]; rfl
  have hTd : T = bs r := by rw [← hT, bs_of (s.extract 2 s.size), drop_ext, hr]; rfl
  have e2 : (P2.toList == [63, 32]) = true := eq_lit.trans (decide_eq_true hPd)
  have HPH := Lib.hid (fun X => phrase_any T 200 (by omega) 200 rfl X)
  rw [tb_true (by rw [hTd]; exact hph)] at HPH
  have HST := Lib.hid (show StepL (conOf p) s.data.toList (addQ (conOf p) T) from .ques T (by rw [hr, hTd]; unfold lQues; rw [bs_data]) (by rw [hTd]; exact hph))
  have hlen : p.qs.length ≤ 1000000000 := by have := hc.1; omega
  clear F1 F2 F3 hb0 h hc hn hr hph hsz hr1 hPd hTd
  go_enter Tryz.func32, Tryz.ntmps32
  go_wp2_with fail
  rw [← hW0]
  clear hW0
  refine (HPH.out _).mono ?_
  rintro e W0 ⟨rfl, rfl⟩
  go_wp2_with fail
  refine wp_region_held_drew (S := fun _ => True) (by kernel_rfl) trivial (fun _ => ?_)
  have HB0 := Lib.hid (show Below W0.heap.size W0 W0.drew from (Below.refl _ _).drew)
  obtain ⟨U0, hU0⟩ : ∃ U, U = W0.drew := ⟨_, rfl⟩
  rw [← hU0] at HB0 ⊢
  clear hU0
  refine wpAnyH_take (i := 1) (v := .pointer (some ⟨w.heap.size, 2, none⟩)) rfl (by kernel_rfl) (by kernel_rfl) (by kernel_rfl) (fun _ _ _ h => h) (Or.inl ⟨by rfl, ?_⟩) (by assumption) ?_
  · intro w hSw
    go_simp
  show wpAnyH _ _ _ _ _ _ _ (Act.put _ (some 23) _) _
  simp only [Act.put, List.setIfInBounds_toArray, List.set_cons_zero, List.set_cons_succ]
  refine wpAnyH_take (i := 4) (v := .string s) rfl (by kernel_rfl) (by kernel_rfl) (by kernel_rfl) (fun _ _ _ h => h) (Or.inl ⟨by rfl, ?_⟩) (by assumption) ?_
  · intro w hSw
    go_simp
  show wpAnyH _ _ _ _ _ _ _ (Act.put _ (some 26) _) _
  simp only [Act.put, List.setIfInBounds_toArray, List.set_cons_zero, List.set_cons_succ]
  refine wpAnyH_take (i := 5) (v := .string T) rfl (by kernel_rfl) (by kernel_rfl) (by kernel_rfl) (fun _ _ _ h => h) (Or.inl ⟨by rfl, ?_⟩) (by assumption) ?_
  · intro w hSw
    go_simp
  show wpAnyH _ _ _ _ _ _ _ (Act.put _ (some 27) _) _
  simp only [Act.put, List.setIfInBounds_toArray, List.set_cons_zero, List.set_cons_succ]
  refine wpAnyH_take (i := 6) (v := .agg #[.string T, .slice none 0 0]) rfl (by kernel_rfl) (by kernel_rfl) (by kernel_rfl) (fun _ _ _ h => h) (Or.inl ⟨by rfl, ?_⟩) (by assumption) ?_
  · intro w hSw
    go_simp
  show wpAnyH _ _ _ _ _ _ _ (Act.put _ (some 28) _) _
  simp only [Act.put, List.setIfInBounds_toArray, List.set_cons_zero, List.set_cons_succ]
  refine wpAnyH_ready (rs := [0, 2, 7]) (by kernel_rfl) (by simp) ?_
  refine AllReadyH.cons rfl (fun K hK => ?_) (AllReadyH.cons rfl (fun K hK => ?_) (AllReadyH.cons rfl (fun K hK => ?_) AllReadyH.nil))
  · have HE1 := Lib.hid (OwnR.lit (cs := cellsQ) (s := 2) (w := U0) cellsQ_len W0.heap.size 43 [] (n := U0.heap.size) rfl HB0.out.size (by decide) #[] rfl)
    have hst := below_new U0 (.cells #[] 43)
    go_simp
    refine hK.out _ _ trivial (fun _ => ?_)
    clear hK K
    obtain ⟨U1, hU⟩ : ∃ U, U = U0.alloc (.cells #[] 43) := ⟨_, rfl⟩
    rw [← hU] at HE1 hst ⊢
    have HB1 := Lib.hid (HB0.out.trans (hst.mono HB0.out.size))
    have hlE := (show U0.heap.size < U1.heap.size by rw [hU]; exact lt_new _ _)
    clear hU hst
    refine wpAnyH_ready (rs := [2, 7]) (by kernel_rfl) (by simp) ?_
    refine AllReadyH.cons rfl (fun K hK => ?_) (AllReadyH.cons rfl (fun K hK => ?_) AllReadyH.nil)
    · have f21 := (HB1.out.cell (p := ⟨w.heap.size, 2, none⟩) (Nat.lt_of_succ_lt hz0)).trans f2
      go_simp
      refine hK.out _ _ trivial (fun _ => ?_)
      clear hK K f21
      refine wpAnyH_ready (rs := [3, 7]) (by kernel_rfl) (by simp) ?_
      refine AllReadyH.cons rfl (fun K hK => ?_) (AllReadyH.cons rfl (fun K hK => ?_) AllReadyH.nil)
      · refine step_append_recs (cs := cellsQ) (s := 2) U1 (by rfl) cellsQ_len (.tmp 22) (.tmp 24) 22 (by rfl) 43 Tryz.underlying22 ques_info rfl (by decide) (by decide) W0.heap.size _ [] rfl HE1.out w.heap.size p.qA p.qs.length p.qc p.qs rfl rfl HH.out.2.2.2.1.1.1 (RecsAt.below HROWS.out (HB1.out.mono HB.out.size)) (fun y _ => cellsQ_one y) (by simp; omega) HB1.out.size ?_
        intro v1 U2 hown1 hg1
        rw [List.nil_append] at hown1
        have HA2 := Lib.hid hown1
        have HB2 := Lib.hid (HB1.out.grown hg1 HB1.out.size (fun j hj => HE1.out.ge_base j hj))
        clear hown1 hg1
        refine hK.out _ _ trivial (fun _ => ?_)
        clear hK K
        show wpAnyH _ _ _ _ _ _ _ (Act.put _ (some 25) _) _
        simp only [Act.put, List.setIfInBounds_toArray, List.set_cons_zero, List.set_cons_succ]
        refine wpAnyH_ready (rs := [7]) (by kernel_rfl) (by simp) ?_
        refine AllReadyH.cons rfl (fun K hK => ?_) AllReadyH.nil
        have HN3 := Lib.hid (new_obj U2 (.cells #[.string T, .slice none 0 0] 43))
        have hst := below_new U2 (.cells #[.string T, .slice none 0 0] 43)
        go_simp
        refine hK.out _ _ trivial (fun _ => ?_)
        clear hK K
        obtain ⟨U3, hU⟩ : ∃ U, U = U2.alloc (.cells #[.string T, .slice none 0 0] 43) := ⟨_, rfl⟩
        rw [← hU] at HN3 hst ⊢
        have HB3 := Lib.hid (HB2.out.trans (hst.mono HB2.out.size))
        have hlN := (show U2.heap.size < U3.heap.size by rw [hU]; exact lt_new _ _)
        have HA3 := Lib.hid (HA2.out.kept_new hst)
        clear hU hst
        refine wpAnyH_ready (rs := [8]) (by kernel_rfl) (by simp) ?_
        refine AllReadyH.cons rfl (fun K hK => ?_) AllReadyH.nil
        refine step_append_recs (cs := cellsQ) (s := 2) U3 (by rfl) cellsQ_len (.tmp 25) (.tmp 29) 22 (by rfl) 43 Tryz.underlying22 ques_info rfl (by decide) (by decide) W0.heap.size _ p.qs rfl HA3.out U3.heap.size (some ⟨U2.heap.size, 0, none⟩) 1 1 [⟨T, none, [], 0⟩] rfl rfl (fun e => by cases e) (recs_row HN3.out rfl hlN) (fun y _ => cellsQ_one y) (by simp; omega) HB3.out.size ?_
        intro v2 U4 hown2 hg2
        have HB4 := Lib.hid (HB3.out.grown hg2 HB3.out.size (fun j hj => HA3.out.ge_base j hj))
        obtain ⟨A2, c2, rfl, _⟩ := OwnR.sl hown2
        have HO := Lib.hid hown2
        clear hown2 hg2
        refine hK.out _ _ trivial (fun _ => ?_)
        clear hK K
        show wpAnyH _ _ _ _ _ _ _ (Act.put _ (some 30) _) _
        simp only [Act.put, List.setIfInBounds_toArray, List.set_cons_zero, List.set_cons_succ]
        refine wpAnyH_take (i := 9) (v := .pointer (some ⟨w.heap.size, 2, none⟩)) rfl (by kernel_rfl) (by kernel_rfl) (by kernel_rfl) (fun _ _ _ h => h) (Or.inl ⟨by rfl, ?_⟩) (by assumption) ?_
        · intro w hSw
          go_simp
        show wpAnyH _ _ _ _ _ _ _ (Act.put _ (some 31) _) _
        simp only [Act.put, List.setIfInBounds_toArray, List.set_cons_zero, List.set_cons_succ]
        refine wpAnyH_ready (rs := [10]) (by kernel_rfl) (by simp) ?_
        refine AllReadyH.cons rfl (fun K hK => ?_) AllReadyH.nil
        obtain ⟨n2, hn2⟩ : ∃ n, n = (p.qs ++ [(⟨T, none, [], 0⟩ : Ques)]).length := ⟨_, rfl⟩
        rw [← hn2] at HO ⊢
        have HN2 := Lib.hid hn2
        clear hn2
        have f04 := (HB4.out.cell (p := ⟨w.heap.size, 0, none⟩) (Nat.lt_of_succ_lt hz0)).trans f0
        have f14 := (HB4.out.cell (p := ⟨w.heap.size, 1, none⟩) (Nat.lt_of_succ_lt hz0)).trans f1
        have f24 := (HB4.out.cell (p := ⟨w.heap.size, 2, none⟩) (Nat.lt_of_succ_lt hz0)).trans f2
        have t24 := (HB4.out.frozen (p := ⟨w.heap.size, 2, none⟩) (Nat.lt_of_succ_lt hz0)).trans t2
        have r04 := (HB4.out.cell (p := ⟨w.heap.size + 1, 0, none⟩) hz0).trans r0
        have r14 := (HB4.out.cell (p := ⟨w.heap.size + 1, 1, none⟩) hz0).trans r1
        have r24 := (HB4.out.cell (p := ⟨w.heap.size + 1, 2, none⟩) hz0).trans r2
        have u04 := (HB4.out.frozen (p := ⟨w.heap.size + 1, 0, none⟩) hz0).trans u0
        have u14 := (HB4.out.frozen (p := ⟨w.heap.size + 1, 1, none⟩) hz0).trans u1
        have u24 := (HB4.out.frozen (p := ⟨w.heap.size + 1, 2, none⟩) hz0).trans u2
        go_simp
        refine hK.out _ _ trivial (fun _ => ?_)
        clear hK K
        refine wpAnyH_done (by kernel_rfl) ?_ _
        go_wp2_with fail
        have HW := Lib.hid (show Below w.heap.size w _ from below_set3 (((HB.out.trans (HB4.out.mono HB.out.size)).setCell (p := ⟨w.heap.size, 2, none⟩) (Nat.le_refl _) (.slice A2 n2 c2))) (b := w.heap.size + 1) (Nat.le_succ _) (.string p.name) (.int .i64 p.ver) (.slice A2 n2 c2))
        have HOW := Lib.hid (own_set (own_set (own_set (own_set HO.out (b := w.heap.size) (Nat.lt_of_succ_lt hz0) 2 (.slice A2 n2 c2)) (b := w.heap.size + 1) hz0 0 (.string p.name)) (b := w.heap.size + 1) hz0 1 (.int .i64 p.ver)) (b := w.heap.size + 1) hz0 2 (.slice A2 n2 c2))
        refine bodyPost_ret (v := .tuple #[protV p.name p.ver A2 n2 c2, .bool true]) (by simp [results, Tryz.results32, go_sem, r04, r14, r24, protV]) rfl ?_
        exact fin_ques HH.out.1 HH.out.2.1 HH.out.2.2.2.1 HST.out HB.out.size HOW.out HN2.out HW.out
      · have HN2 := Lib.hid (new_obj U1 (.cells #[.string T, .slice none 0 0] 43))
        have hst := below_new U1 (.cells #[.string T, .slice none 0 0] 43)
        go_simp
        refine hK.out _ _ trivial (fun _ => ?_)
        clear hK K
        obtain ⟨U2, hU⟩ : ∃ U, U = U1.alloc (.cells #[.string T, .slice none 0 0] 43) := ⟨_, rfl⟩
        rw [← hU] at HN2 hst ⊢
        have HB2 := Lib.hid (HB1.out.trans (hst.mono HB1.out.size))
        have hlN := (show U1.heap.size < U2.heap.size by rw [hU]; exact lt_new _ _)
        have HE2 := Lib.hid (HE1.out.kept_new hst)
        have hne : U0.heap.size ≠ U1.heap.size := by omega
        replace hlE := Nat.lt_of_lt_of_le hlE hst.size
        clear hU hst
        refine wpAnyH_ready (rs := [3]) (by kernel_rfl) (by simp) ?_
        refine AllReadyH.cons rfl (fun K hK => ?_) AllReadyH.nil
        refine step_append_recs (cs := cellsQ) (s := 2) U2 (by rfl) cellsQ_len (.tmp 22) (.tmp 24) 22 (by rfl) 43 Tryz.underlying22 ques_info rfl (by decide) (by decide) W0.heap.size _ [] rfl HE2.out w.heap.size p.qA p.qs.length p.qc p.qs rfl rfl HH.out.2.2.2.1.1.1 (RecsAt.below HROWS.out (HB2.out.mono HB.out.size)) (fun y _ => cellsQ_one y) (by simp; omega) HB2.out.size ?_
        intro v1 U3 hown1 hg1
        rw [List.nil_append] at hown1
        have HA3 := Lib.hid hown1
        have HB3 := Lib.hid (HB2.out.grown hg1 HB2.out.size (fun j hj => HE2.out.ge_base j hj))
        have HN3 := Lib.hid ((hg1.block U1.heap.size hlN (fun e => by injection e with e; exact hne e.symm)).trans HN2.out)
        replace hlN := Nat.lt_of_lt_of_le hlN hg1.size
        clear hown1 hg1
        refine hK.out _ _ trivial (fun _ => ?_)
        clear hK K
        show wpAnyH _ _ _ _ _ _ _ (Act.put _ (some 25) _) _
        simp only [Act.put, List.setIfInBounds_toArray, List.set_cons_zero, List.set_cons_succ]
        refine wpAnyH_ready (rs := [8]) (by kernel_rfl) (by simp) ?_
        refine AllReadyH.cons rfl (fun K hK => ?_) AllReadyH.nil
        refine step_append_recs (cs := cellsQ) (s := 2) U3 (by rfl) cellsQ_len (.tmp 25) (.tmp 29) 22 (by rfl) 43 Tryz.underlying22 ques_info rfl (by decide) (by decide) W0.heap.size _ p.qs rfl HA3.out U3.heap.size (some ⟨U1.heap.size, 0, none⟩) 1 1 [⟨T, none, [], 0⟩] rfl rfl (fun e => by cases e) (recs_row HN3.out rfl hlN) (fun y _ => cellsQ_one y) (by simp; omega) HB3.out.size ?_
        intro v2 U4 hown2 hg2
        have HB4 := Lib.hid (HB3.out.grown hg2 HB3.out.size (fun j hj => HA3.out.ge_base j hj))
        obtain ⟨A2, c2, rfl, _⟩ := OwnR.sl hown2
        have HO := Lib.hid hown2
        clear hown2 hg2
        refine hK.out _ _ trivial (fun _ => ?_)
        clear hK K
        show wpAnyH _ _ _ _ _ _ _ (Act.put _ (some 30) _) _
        simp only [Act.put, List.setIfInBounds_toArray, List.set_cons_zero, List.set_cons_succ]
        refine wpAnyH_take (i := 9) (v := .pointer (some ⟨w.heap.size, 2, none⟩)) rfl (by kernel_rfl) (by kernel_rfl) (by kernel_rfl) (fun _ _ _ h => h) (Or.inl ⟨by rfl, ?_⟩) (by assumption) ?_
        · intro w hSw
          go_simp
        show wpAnyH _ _ _ _ _ _ _ (Act.put _ (some 31) _) _
        simp only [Act.put, List.setIfInBounds_toArray, List.set_cons_zero, List.set_cons_succ]
        refine wpAnyH_ready (rs := [10]) (by kernel_rfl) (by simp) ?_
        refine AllReadyH.cons rfl (fun K hK => ?_) AllReadyH.nil
        obtain ⟨n2, hn2⟩ : ∃ n, n = (p.qs ++ [(⟨T, none, [], 0⟩ : Ques)]).length := ⟨_, rfl⟩
        rw [← hn2] at HO ⊢
        have HN2 := Lib.hid hn2
        clear hn2
        have f04 := (HB4.out.cell (p := ⟨w.heap.size, 0, none⟩) (Nat.lt_of_succ_lt hz0)).trans f0
        have f14 := (HB4.out.cell (p := ⟨w.heap.size, 1, none⟩) (Nat.lt_of_succ_lt hz0)).trans f1
        have f24 := (HB4.out.cell (p := ⟨w.heap.size, 2, none⟩) (Nat.lt_of_succ_lt hz0)).trans f2
        have t24 := (HB4.out.frozen (p := ⟨w.heap.size, 2, none⟩) (Nat.lt_of_succ_lt hz0)).trans t2
        have r04 := (HB4.out.cell (p := ⟨w.heap.size + 1, 0, none⟩) hz0).trans r0
        have r14 := (HB4.out.cell (p := ⟨w.heap.size + 1, 1, none⟩) hz0).trans r1
        have r24 := (HB4.out.cell (p := ⟨w.heap.size + 1, 2, none⟩) hz0).trans r2
        have u04 := (HB4.out.frozen (p := ⟨w.heap.size + 1, 0, none⟩) hz0).trans u0
        have u14 := (HB4.out.frozen (p := ⟨w.heap.size + 1, 1, none⟩) hz0).trans u1
        have u24 := (HB4.out.frozen (p := ⟨w.heap.size + 1, 2, none⟩) hz0).trans u2
        go_simp
        refine hK.out _ _ trivial (fun _ => ?_)
        clear hK K
        refine wpAnyH_done (by kernel_rfl) ?_ _
        go_wp2_with fail
        have HW := Lib.hid (show Below w.heap.size w _ from below_set3 (((HB.out.trans (HB4.out.mono HB.out.size)).setCell (p := ⟨w.heap.size, 2, none⟩) (Nat.le_refl _) (.slice A2 n2 c2))) (b := w.heap.size + 1) (Nat.le_succ _) (.string p.name) (.int .i64 p.ver) (.slice A2 n2 c2))
        have HOW := Lib.hid (own_set (own_set (own_set (own_set HO.out (b := w.heap.size) (Nat.lt_of_succ_lt hz0) 2 (.slice A2 n2 c2)) (b := w.heap.size + 1) hz0 0 (.string p.name)) (b := w.heap.size + 1) hz0 1 (.int .i64 p.ver)) (b := w.heap.size + 1) hz0 2 (.slice A2 n2 c2))
        refine bodyPost_ret (v := .tuple #[protV p.name p.ver A2 n2 c2, .bool true]) (by simp [results, Tryz.results32, go_sem, r04, r14, r24, protV]) rfl ?_
        exact fin_ques HH.out.1 HH.out.2.1 HH.out.2.2.2.1 HST.out HB.out.size HOW.out HN2.out HW.out
    · have HN2 := Lib.hid (new_obj U1 (.cells #[.string T, .slice none 0 0] 43))
      have hst := below_new U1 (.cells #[.string T, .slice none 0 0] 43)
      go_simp
      refine hK.out _ _ trivial (fun _ => ?_)
      clear hK K
      obtain ⟨U2, hU⟩ : ∃ U, U = U1.alloc (.cells #[.string T, .slice none 0 0] 43) := ⟨_, rfl⟩
      rw [← hU] at HN2 hst ⊢
      have HB2 := Lib.hid (HB1.out.trans (hst.mono HB1.out.size))
      have hlN := (show U1.heap.size < U2.heap.size by rw [hU]; exact lt_new _ _)
      have HE2 := Lib.hid (HE1.out.kept_new hst)
      have hne : U0.heap.size ≠ U1.heap.size := by omega
      replace hlE := Nat.lt_of_lt_of_le hlE hst.size
      clear hU hst
      refine wpAnyH_ready (rs := [2]) (by kernel_rfl) (by simp) ?_
      refine AllReadyH.cons rfl (fun K hK => ?_) AllReadyH.nil
      have f22 := (HB2.out.cell (p := ⟨w.heap.size, 2, none⟩) (Nat.lt_of_succ_lt hz0)).trans f2
      go_simp
      refine hK.out _ _ trivial (fun _ => ?_)
      clear hK K f22
      refine wpAnyH_ready (rs := [3]) (by kernel_rfl) (by simp) ?_
      refine AllReadyH.cons rfl (fun K hK => ?_) AllReadyH.nil
      refine step_append_recs (cs := cellsQ) (s := 2) U2 (by rfl) cellsQ_len (.tmp 22) (.tmp 24) 22 (by rfl) 43 Tryz.underlying22 ques_info rfl (by decide) (by decide) W0.heap.size _ [] rfl HE2.out w.heap.size p.qA p.qs.length p.qc p.qs rfl rfl HH.out.2.2.2.1.1.1 (RecsAt.below HROWS.out (HB2.out.mono HB.out.size)) (fun y _ => cellsQ_one y) (by simp; omega) HB2.out.size ?_
      intro v1 U3 hown1 hg1
      rw [List.nil_append] at hown1
      have HA3 := Lib.hid hown1
      have HB3 := Lib.hid (HB2.out.grown hg1 HB2.out.size (fun j hj => HE2.out.ge_base j hj))
      have HN3 := Lib.hid ((hg1.block U1.heap.size hlN (fun e => by injection e with e; exact hne e.symm)).trans HN2.out)
      replace hlN := Nat.lt_of_lt_of_le hlN hg1.size
      clear hown1 hg1
      refine hK.out _ _ trivial (fun _ => ?_)
      clear hK K
      show wpAnyH _ _ _ _ _ _ _ (Act.put _ (some 25) _) _
      simp only [Act.put, List.setIfInBounds_toArray, List.set_cons_zero, List.set_cons_succ]
      refine wpAnyH_ready (rs := [8]) (by kernel_rfl) (by simp) ?_
      refine AllReadyH.cons rfl (fun K hK => ?_) AllReadyH.nil
      refine step_append_recs (cs := cellsQ) (s := 2) U3 (by rfl) cellsQ_len (.tmp 25) (.tmp 29) 22 (by rfl) 43 Tryz.underlying22 ques_info rfl (by decide) (by decide) W0.heap.size _ p.qs rfl HA3.out U3.heap.size (some ⟨U1.heap.size, 0, none⟩) 1 1 [⟨T, none, [], 0⟩] rfl rfl (fun e => by cases e) (recs_row HN3.out rfl hlN) (fun y _ => cellsQ_one y) (by simp; omega) HB3.out.size ?_
      intro v2 U4 hown2 hg2
      have HB4 := Lib.hid (HB3.out.grown hg2 HB3.out.size (fun j hj => HA3.out.ge_base j hj))
      obtain ⟨A2, c2, rfl, _⟩ := OwnR.sl hown2
      have HO := Lib.hid hown2
      clear hown2 hg2
      refine hK.out _ _ trivial (fun _ => ?_)
      clear hK K
      show wpAnyH _ _ _ _ _ _ _ (Act.put _ (some 30) _) _
      simp only [Act.put, List.setIfInBounds_toArray, List.set_cons_zero, List.set_cons_succ]
      refine wpAnyH_take (i := 9) (v := .pointer (some ⟨w.heap.size, 2, none⟩)) rfl (by kernel_rfl) (by kernel_rfl) (by kernel_rfl) (fun _ _ _ h => h) (Or.inl ⟨by rfl, ?_⟩) (by assumption) ?_
      · intro w hSw
        go_simp
      show wpAnyH _ _ _ _ _ _ _ (Act.put _ (some 31) _) _
      simp only [Act.put, List.setIfInBounds_toArray, List.set_cons_zero, List.set_cons_succ]
      refine wpAnyH_ready (rs := [10]) (by kernel_rfl) (by simp) ?_
      refine AllReadyH.cons rfl (fun K hK => ?_) AllReadyH.nil
      obtain ⟨n2, hn2⟩ : ∃ n, n = (p.qs ++ [(⟨T, none, [], 0⟩ : Ques)]).length := ⟨_, rfl⟩
      rw [← hn2] at HO ⊢
      have HN2 := Lib.hid hn2
      clear hn2
      have f04 := (HB4.out.cell (p := ⟨w.heap.size, 0, none⟩) (Nat.lt_of_succ_lt hz0)).trans f0
      have f14 := (HB4.out.cell (p := ⟨w.heap.size, 1, none⟩) (Nat.lt_of_succ_lt hz0)).trans f1
      have f24 := (HB4.out.cell (p := ⟨w.heap.size, 2, none⟩) (Nat.lt_of_succ_lt hz0)).trans f2
      have t24 := (HB4.out.frozen (p := ⟨w.heap.size, 2, none⟩) (Nat.lt_of_succ_lt hz0)).trans t2
      have r04 := (HB4.out.cell (p := ⟨w.heap.size + 1, 0, none⟩) hz0).trans r0
      have r14 := (HB4.out.cell (p := ⟨w.heap.size + 1, 1, none⟩) hz0).trans r1
      have r24 := (HB4.out.cell (p := ⟨w.heap.size + 1, 2, none⟩) hz0).trans r2
      have u04 := (HB4.out.frozen (p := ⟨w.heap.size + 1, 0, none⟩) hz0).trans u0
      have u14 := (HB4.out.frozen (p := ⟨w.heap.size + 1, 1, none⟩) hz0).trans u1
      have u24 := (HB4.out.frozen (p := ⟨w.heap.size + 1, 2, none⟩) hz0).trans u2
      go_simp
      refine hK.out _ _ trivial (fun _ => ?_)
      clear hK K
      refine wpAnyH_done (by kernel_rfl) ?_ _
      go_wp2_with fail
      have HW := Lib.hid (show Below w.heap.size w _ from below_set3 (((HB.out.trans (HB4.out.mono HB.out.size)).setCell (p := ⟨w.heap.size, 2, none⟩) (Nat.le_refl _) (.slice A2 n2 c2))) (b := w.heap.size + 1) (Nat.le_succ _) (.string p.name) (.int .i64 p.ver) (.slice A2 n2 c2))
      have HOW := Lib.hid (own_set (own_set (own_set (own_set HO.out (b := w.heap.size) (Nat.lt_of_succ_lt hz0) 2 (.slice A2 n2 c2)) (b := w.heap.size + 1) hz0 0 (.string p.name)) (b := w.heap.size + 1) hz0 1 (.int .i64 p.ver)) (b := w.heap.size + 1) hz0 2 (.slice A2 n2 c2))
      refine bodyPost_ret (v := .tuple #[protV p.name p.ver A2 n2 c2, .bool true]) (by simp [results, Tryz.results32, go_sem, r04, r14, r24, protV]) rfl ?_
      exact fin_ques HH.out.1 HH.out.2.1 HH.out.2.2.2.1 HST.out HB.out.size HOW.out HN2.out HW.out
  · have f20 := (HB0.out.cell (p := ⟨w.heap.size, 2, none⟩) (Nat.lt_of_succ_lt hz0)).trans f2
    go_simp
    refine hK.out _ _ trivial (fun _ => ?_)
    clear hK K f20
    refine wpAnyH_ready (rs := [0, 7]) (by kernel_rfl) (by simp) ?_
    refine AllReadyH.cons rfl (fun K hK => ?_) (AllReadyH.cons rfl (fun K hK => ?_) AllReadyH.nil)
    · have HE1 := Lib.hid (OwnR.lit (cs := cellsQ) (s := 2) (w := U0) cellsQ_len W0.heap.size 43 [] (n := U0.heap.size) rfl HB0.out.size (by decide) #[] rfl)
      have hst := below_new U0 (.cells #[] 43)
      go_simp
      refine hK.out _ _ trivial (fun _ => ?_)
      clear hK K
      obtain ⟨U1, hU⟩ : ∃ U, U = U0.alloc (.cells #[] 43) := ⟨_, rfl⟩
      rw [← hU] at HE1 hst ⊢
      have HB1 := Lib.hid (HB0.out.trans (hst.mono HB0.out.size))
      have hlE := (show U0.heap.size < U1.heap.size by rw [hU]; exact lt_new _ _)
      clear hU hst
      refine wpAnyH_ready (rs := [3, 7]) (by kernel_rfl) (by simp) ?_
      refine AllReadyH.cons rfl (fun K hK => ?_) (AllReadyH.cons rfl (fun K hK => ?_) AllReadyH.nil)
      · refine step_append_recs (cs := cellsQ) (s := 2) U1 (by rfl) cellsQ_len (.tmp 22) (.tmp 24) 22 (by rfl) 43 Tryz.underlying22 ques_info rfl (by decide) (by decide) W0.heap.size _ [] rfl HE1.out w.heap.size p.qA p.qs.length p.qc p.qs rfl rfl HH.out.2.2.2.1.1.1 (RecsAt.below HROWS.out (HB1.out.mono HB.out.size)) (fun y _ => cellsQ_one y) (by simp; omega) HB1.out.size ?_
        intro v1 U2 hown1 hg1
        rw [List.nil_append] at hown1
        have HA2 := Lib.hid hown1
        have HB2 := Lib.hid (HB1.out.grown hg1 HB1.out.size (fun j hj => HE1.out.ge_base j hj))
        clear hown1 hg1
        refine hK.out _ _ trivial (fun _ => ?_)
        clear hK K
        show wpAnyH _ _ _ _ _ _ _ (Act.put _ (some 25) _) _
        simp only [Act.put, List.setIfInBounds_toArray, List.set_cons_zero, List.set_cons_succ]
        refine wpAnyH_ready (rs := [7]) (by kernel_rfl) (by simp) ?_
        refine AllReadyH.cons rfl (fun K hK => ?_) AllReadyH.nil
        have HN3 := Lib.hid (new_obj U2 (.cells #[.string T, .slice none 0 0] 43))
        have hst := below_new U2 (.cells #[.string T, .slice none 0 0] 43)
        go_simp
        refine hK.out _ _ trivial (fun _ => ?_)
        clear hK K
        obtain ⟨U3, hU⟩ : ∃ U, U = U2.alloc (.cells #[.string T, .slice none 0 0] 43) := ⟨_, rfl⟩
        rw [← hU] at HN3 hst ⊢
        have HB3 := Lib.hid (HB2.out.trans (hst.mono HB2.out.size))
        have hlN := (show U2.heap.size < U3.heap.size by rw [hU]; exact lt_new _ _)
        have HA3 := Lib.hid (HA2.out.kept_new hst)
        clear hU hst
        refine wpAnyH_ready (rs := [8]) (by kernel_rfl) (by simp) ?_
        refine AllReadyH.cons rfl (fun K hK => ?_) AllReadyH.nil
        refine step_append_recs (cs := cellsQ) (s := 2) U3 (by rfl) cellsQ_len (.tmp 25) (.tmp 29) 22 (by rfl) 43 Tryz.underlying22 ques_info rfl (by decide) (by decide) W0.heap.size _ p.qs rfl HA3.out U3.heap.size (some ⟨U2.heap.size, 0, none⟩) 1 1 [⟨T, none, [], 0⟩] rfl rfl (fun e => by cases e) (recs_row HN3.out rfl hlN) (fun y _ => cellsQ_one y) (by simp; omega) HB3.out.size ?_
        intro v2 U4 hown2 hg2
        have HB4 := Lib.hid (HB3.out.grown hg2 HB3.out.size (fun j hj => HA3.out.ge_base j hj))
        obtain ⟨A2, c2, rfl, _⟩ := OwnR.sl hown2
        have HO := Lib.hid hown2
        clear hown2 hg2
        refine hK.out _ _ trivial (fun _ => ?_)
        clear hK K
        show wpAnyH _ _ _ _ _ _ _ (Act.put _ (some 30) _) _
        simp only [Act.put, List.setIfInBounds_toArray, List.set_cons_zero, List.set_cons_succ]
        refine wpAnyH_take (i := 9) (v := .pointer (some ⟨w.heap.size, 2, none⟩)) rfl (by kernel_rfl) (by kernel_rfl) (by kernel_rfl) (fun _ _ _ h => h) (Or.inl ⟨by rfl, ?_⟩) (by assumption) ?_
        · intro w hSw
          go_simp
        show wpAnyH _ _ _ _ _ _ _ (Act.put _ (some 31) _) _
        simp only [Act.put, List.setIfInBounds_toArray, List.set_cons_zero, List.set_cons_succ]
        refine wpAnyH_ready (rs := [10]) (by kernel_rfl) (by simp) ?_
        refine AllReadyH.cons rfl (fun K hK => ?_) AllReadyH.nil
        obtain ⟨n2, hn2⟩ : ∃ n, n = (p.qs ++ [(⟨T, none, [], 0⟩ : Ques)]).length := ⟨_, rfl⟩
        rw [← hn2] at HO ⊢
        have HN2 := Lib.hid hn2
        clear hn2
        have f04 := (HB4.out.cell (p := ⟨w.heap.size, 0, none⟩) (Nat.lt_of_succ_lt hz0)).trans f0
        have f14 := (HB4.out.cell (p := ⟨w.heap.size, 1, none⟩) (Nat.lt_of_succ_lt hz0)).trans f1
        have f24 := (HB4.out.cell (p := ⟨w.heap.size, 2, none⟩) (Nat.lt_of_succ_lt hz0)).trans f2
        have t24 := (HB4.out.frozen (p := ⟨w.heap.size, 2, none⟩) (Nat.lt_of_succ_lt hz0)).trans t2
        have r04 := (HB4.out.cell (p := ⟨w.heap.size + 1, 0, none⟩) hz0).trans r0
        have r14 := (HB4.out.cell (p := ⟨w.heap.size + 1, 1, none⟩) hz0).trans r1
        have r24 := (HB4.out.cell (p := ⟨w.heap.size + 1, 2, none⟩) hz0).trans r2
        have u04 := (HB4.out.frozen (p := ⟨w.heap.size + 1, 0, none⟩) hz0).trans u0
        have u14 := (HB4.out.frozen (p := ⟨w.heap.size + 1, 1, none⟩) hz0).trans u1
        have u24 := (HB4.out.frozen (p := ⟨w.heap.size + 1, 2, none⟩) hz0).trans u2
        go_simp
        refine hK.out _ _ trivial (fun _ => ?_)
        clear hK K
        refine wpAnyH_done (by kernel_rfl) ?_ _
        go_wp2_with fail
        have HW := Lib.hid (show Below w.heap.size w _ from below_set3 (((HB.out.trans (HB4.out.mono HB.out.size)).setCell (p := ⟨w.heap.size, 2, none⟩) (Nat.le_refl _) (.slice A2 n2 c2))) (b := w.heap.size + 1) (Nat.le_succ _) (.string p.name) (.int .i64 p.ver) (.slice A2 n2 c2))
        have HOW := Lib.hid (own_set (own_set (own_set (own_set HO.out (b := w.heap.size) (Nat.lt_of_succ_lt hz0) 2 (.slice A2 n2 c2)) (b := w.heap.size + 1) hz0 0 (.string p.name)) (b := w.heap.size + 1) hz0 1 (.int .i64 p.ver)) (b := w.heap.size + 1) hz0 2 (.slice A2 n2 c2))
        refine bodyPost_ret (v := .tuple #[protV p.name p.ver A2 n2 c2, .bool true]) (by simp [results, Tryz.results32, go_sem, r04, r14, r24, protV]) rfl ?_
        exact fin_ques HH.out.1 HH.out.2.1 HH.out.2.2.2.1 HST.out HB.out.size HOW.out HN2.out HW.out
      · have HN2 := Lib.hid (new_obj U1 (.cells #[.string T, .slice none 0 0] 43))
        have hst := below_new U1 (.cells #[.string T, .slice none 0 0] 43)
        go_simp
        refine hK.out _ _ trivial (fun _ => ?_)
        clear hK K
        obtain ⟨U2, hU⟩ : ∃ U, U = U1.alloc (.cells #[.string T, .slice none 0 0] 43) := ⟨_, rfl⟩
        rw [← hU] at HN2 hst ⊢
        have HB2 := Lib.hid (HB1.out.trans (hst.mono HB1.out.size))
        have hlN := (show U1.heap.size < U2.heap.size by rw [hU]; exact lt_new _ _)
        have HE2 := Lib.hid (HE1.out.kept_new hst)
        have hne : U0.heap.size ≠ U1.heap.size := by omega
        replace hlE := Nat.lt_of_lt_of_le hlE hst.size
        clear hU hst
        refine wpAnyH_ready (rs := [3]) (by kernel_rfl) (by simp) ?_
        refine AllReadyH.cons rfl (fun K hK => ?_) AllReadyH.nil
        refine step_append_recs (cs := cellsQ) (s := 2) U2 (by rfl) cellsQ_len (.tmp 22) (.tmp 24) 22 (by rfl) 43 Tryz.underlying22 ques_info rfl (by decide) (by decide) W0.heap.size _ [] rfl HE2.out w.heap.size p.qA p.qs.length p.qc p.qs rfl rfl HH.out.2.2.2.1.1.1 (RecsAt.below HROWS.out (HB2.out.mono HB.out.size)) (fun y _ => cellsQ_one y) (by simp; omega) HB2.out.size ?_
        intro v1 U3 hown1 hg1
        rw [List.nil_append] at hown1
        have HA3 := Lib.hid hown1
        have HB3 := Lib.hid (HB2.out.grown hg1 HB2.out.size (fun j hj => HE2.out.ge_base j hj))
        have HN3 := Lib.hid ((hg1.block U1.heap.size hlN (fun e => by injection e with e; exact hne e.symm)).trans HN2.out)
        replace hlN := Nat.lt_of_lt_of_le hlN hg1.size
        clear hown1 hg1
        refine hK.out _ _ trivial (fun _ => ?_)
        clear hK K
        show wpAnyH _ _ _ _ _ _ _ (Act.put _ (some 25) _) _
        simp only [Act.put, List.setIfInBounds_toArray, List.set_cons_zero, List.set_cons_succ]
        refine wpAnyH_ready (rs := [8]) (by kernel_rfl) (by simp) ?_
        refine AllReadyH.cons rfl (fun K hK => ?_) AllReadyH.nil
        refine step_append_recs (cs := cellsQ) (s := 2) U3 (by rfl) cellsQ_len (.tmp 25) (.tmp 29) 22 (by rfl) 43 Tryz.underlying22 ques_info rfl (by decide) (by decide) W0.heap.size _ p.qs rfl HA3.out U3.heap.size (some ⟨U1.heap.size, 0, none⟩) 1 1 [⟨T, none, [], 0⟩] rfl rfl (fun e => by cases e) (recs_row HN3.out rfl hlN) (fun y _ => cellsQ_one y) (by simp; omega) HB3.out.size ?_
        intro v2 U4 hown2 hg2
        have HB4 := Lib.hid (HB3.out.grown hg2 HB3.out.size (fun j hj => HA3.out.ge_base j hj))
        obtain ⟨A2, c2, rfl, _⟩ := OwnR.sl hown2
        have HO := Lib.hid hown2
        clear hown2 hg2
        refine hK.out _ _ trivial (fun _ => ?_)
        clear hK K
        show wpAnyH _ _ _ _ _ _ _ (Act.put _ (some 30) _) _
        simp only [Act.put, List.setIfInBounds_toArray, List.set_cons_zero, List.set_cons_succ]
        refine wpAnyH_take (i := 9) (v := .pointer (some ⟨w.heap.size, 2, none⟩)) rfl (by kernel_rfl) (by kernel_rfl) (by kernel_rfl) (fun _ _ _ h => h) (Or.inl ⟨by rfl, ?_⟩) (by assumption) ?_
        · intro w hSw
          go_simp
        show wpAnyH _ _ _ _ _ _ _ (Act.put _ (some 31) _) _
        simp only [Act.put, List.setIfInBounds_toArray, List.set_cons_zero, List.set_cons_succ]
        refine wpAnyH_ready (rs := [10]) (by kernel_rfl) (by simp) ?_
        refine AllReadyH.cons rfl (fun K hK => ?_) AllReadyH.nil
        obtain ⟨n2, hn2⟩ : ∃ n, n = (p.qs ++ [(⟨T, none, [], 0⟩ : Ques)]).length := ⟨_, rfl⟩
        rw [← hn2] at HO ⊢
        have HN2 := Lib.hid hn2
        clear hn2
        have f04 := (HB4.out.cell (p := ⟨w.heap.size, 0, none⟩) (Nat.lt_of_succ_lt hz0)).trans f0
        have f14 := (HB4.out.cell (p := ⟨w.heap.size, 1, none⟩) (Nat.lt_of_succ_lt hz0)).trans f1
        have f24 := (HB4.out.cell (p := ⟨w.heap.size, 2, none⟩) (Nat.lt_of_succ_lt hz0)).trans f2
        have t24 := (HB4.out.frozen (p := ⟨w.heap.size, 2, none⟩) (Nat.lt_of_succ_lt hz0)).trans t2
        have r04 := (HB4.out.cell (p := ⟨w.heap.size + 1, 0, none⟩) hz0).trans r0
        have r14 := (HB4.out.cell (p := ⟨w.heap.size + 1, 1, none⟩) hz0).trans r1
        have r24 := (HB4.out.cell (p := ⟨w.heap.size + 1, 2, none⟩) hz0).trans r2
        have u04 := (HB4.out.frozen (p := ⟨w.heap.size + 1, 0, none⟩) hz0).trans u0
        have u14 := (HB4.out.frozen (p := ⟨w.heap.size + 1, 1, none⟩) hz0).trans u1
        have u24 := (HB4.out.frozen (p := ⟨w.heap.size + 1, 2, none⟩) hz0).trans u2
        go_simp
        refine hK.out _ _ trivial (fun _ => ?_)
        clear hK K
        refine wpAnyH_done (by kernel_rfl) ?_ _
        go_wp2_with fail
        have HW := Lib.hid (show Below w.heap.size w _ from below_set3 (((HB.out.trans (HB4.out.mono HB.out.size)).setCell (p := ⟨w.heap.size, 2, none⟩) (Nat.le_refl _) (.slice A2 n2 c2))) (b := w.heap.size + 1) (Nat.le_succ _) (.string p.name) (.int .i64 p.ver) (.slice A2 n2 c2))
        have HOW := Lib.hid (own_set (own_set (own_set (own_set HO.out (b := w.heap.size) (Nat.lt_of_succ_lt hz0) 2 (.slice A2 n2 c2)) (b := w.heap.size + 1) hz0 0 (.string p.name)) (b := w.heap.size + 1) hz0 1 (.int .i64 p.ver)) (b := w.heap.size + 1) hz0 2 (.slice A2 n2 c2))
        refine bodyPost_ret (v := .tuple #[protV p.name p.ver A2 n2 c2, .bool true]) (by simp [results, Tryz.results32, go_sem, r04, r14, r24, protV]) rfl ?_
        exact fin_ques HH.out.1 HH.out.2.1 HH.out.2.2.2.1 HST.out HB.out.size HOW.out HN2.out HW.out
    · have HN1 := Lib.hid (new_obj U0 (.cells #[.string T, .slice none 0 0] 43))
      have hst := below_new U0 (.cells #[.string T, .slice none 0 0] 43)
      go_simp
      refine hK.out _ _ trivial (fun _ => ?_)
      clear hK K
      obtain ⟨U1, hU⟩ : ∃ U, U = U0.alloc (.cells #[.string T, .slice none 0 0] 43) := ⟨_, rfl⟩
      rw [← hU] at HN1 hst ⊢
      have HB1 := Lib.hid (HB0.out.trans (hst.mono HB0.out.size))
      have hlN := (show U0.heap.size < U1.heap.size by rw [hU]; exact lt_new _ _)
      clear hU hst
      refine wpAnyH_ready (rs := [0]) (by kernel_rfl) (by simp) ?_
      refine AllReadyH.cons rfl (fun K hK => ?_) AllReadyH.nil
      have HE2 := Lib.hid (OwnR.lit (cs := cellsQ) (s := 2) (w := U1) cellsQ_len W0.heap.size 43 [] (n := U1.heap.size) rfl HB1.out.size (by decide) #[] rfl)
      have hst := below_new U1 (.cells #[] 43)
      go_simp
      refine hK.out _ _ trivial (fun _ => ?_)
      clear hK K
      obtain ⟨U2, hU⟩ : ∃ U, U = U1.alloc (.cells #[] 43) := ⟨_, rfl⟩
      rw [← hU] at HE2 hst ⊢
      have HB2 := Lib.hid (HB1.out.trans (hst.mono HB1.out.size))
      have hlE := (show U1.heap.size < U2.heap.size by rw [hU]; exact lt_new _ _)
      have HN2 := Lib.hid ((hst.block U0.heap.size hlN).trans HN1.out)
      have hne : U1.heap.size ≠ U0.heap.size := by omega
      replace hlN := Nat.lt_of_lt_of_le hlN hst.size
      clear hU hst
      refine wpAnyH_ready (rs := [3]) (by kernel_rfl) (by simp) ?_
      refine AllReadyH.cons rfl (fun K hK => ?_) AllReadyH.nil
      refine step_append_recs (cs := cellsQ) (s := 2) U2 (by rfl) cellsQ_len (.tmp 22) (.tmp 24) 22 (by rfl) 43 Tryz.underlying22 ques_info rfl (by decide) (by decide) W0.heap.size _ [] rfl HE2.out w.heap.size p.qA p.qs.length p.qc p.qs rfl rfl HH.out.2.2.2.1.1.1 (RecsAt.below HROWS.out (HB2.out.mono HB.out.size)) (fun y _ => cellsQ_one y) (by simp; omega) HB2.out.size ?_
      intro v1 U3 hown1 hg1
      rw [List.nil_append] at hown1
      have HA3 := Lib.hid hown1
      have HB3 := Lib.hid (HB2.out.grown hg1 HB2.out.size (fun j hj => HE2.out.ge_base j hj))
      have HN3 := Lib.hid ((hg1.block U0.heap.size hlN (fun e => by injection e with e; exact hne e.symm)).trans HN2.out)
      replace hlN := Nat.lt_of_lt_of_le hlN hg1.size
      clear hown1 hg1
      refine hK.out _ _ trivial (fun _ => ?_)
      clear hK K
      show wpAnyH _ _ _ _ _ _ _ (Act.put _ (some 25) _) _
      simp only [Act.put, List.setIfInBounds_toArray, List.set_cons_zero, List.set_cons_succ]
      refine wpAnyH_ready (rs := [8]) (by kernel_rfl) (by simp) ?_
      refine AllReadyH.cons rfl (fun K hK => ?_) AllReadyH.nil
      refine step_append_recs (cs := cellsQ) (s := 2) U3 (by rfl) cellsQ_len (.tmp 25) (.tmp 29) 22 (by rfl) 43 Tryz.underlying22 ques_info rfl (by decide) (by decide) W0.heap.size _ p.qs rfl HA3.out U3.heap.size (some ⟨U0.heap.size, 0, none⟩) 1 1 [⟨T, none, [], 0⟩] rfl rfl (fun e => by cases e) (recs_row HN3.out rfl hlN) (fun y _ => cellsQ_one y) (by simp; omega) HB3.out.size ?_
      intro v2 U4 hown2 hg2
      have HB4 := Lib.hid (HB3.out.grown hg2 HB3.out.size (fun j hj => HA3.out.ge_base j hj))
      obtain ⟨A2, c2, rfl, _⟩ := OwnR.sl hown2
      have HO := Lib.hid hown2
      clear hown2 hg2
      refine hK.out _ _ trivial (fun _ => ?_)
      clear hK K
      show wpAnyH _ _ _ _ _ _ _ (Act.put _ (some 30) _) _
      simp only [Act.put, List.setIfInBounds_toArray, List.set_cons_zero, List.set_cons_succ]
      refine wpAnyH_take (i := 9) (v := .pointer (some ⟨w.heap.size, 2, none⟩)) rfl (by kernel_rfl) (by kernel_rfl) (by kernel_rfl) (fun _ _ _ h => h) (Or.inl ⟨by rfl, ?_⟩) (by assumption) ?_
      · intro w hSw
        go_simp
      show wpAnyH _ _ _ _ _ _ _ (Act.put _ (some 31) _) _
      simp only [Act.put, List.setIfInBounds_toArray, List.set_cons_zero, List.set_cons_succ]
      refine wpAnyH_ready (rs := [10]) (by kernel_rfl) (by simp) ?_
      refine AllReadyH.cons rfl (fun K hK => ?_) AllReadyH.nil
      obtain ⟨n2, hn2⟩ : ∃ n, n = (p.qs ++ [(⟨T, none, [], 0⟩ : Ques)]).length := ⟨_, rfl⟩
      rw [← hn2] at HO ⊢
      have HN2 := Lib.hid hn2
      clear hn2
      have f04 := (HB4.out.cell (p := ⟨w.heap.size, 0, none⟩) (Nat.lt_of_succ_lt hz0)).trans f0
      have f14 := (HB4.out.cell (p := ⟨w.heap.size, 1, none⟩) (Nat.lt_of_succ_lt hz0)).trans f1
      have f24 := (HB4.out.cell (p := ⟨w.heap.size, 2, none⟩) (Nat.lt_of_succ_lt hz0)).trans f2
      have t24 := (HB4.out.frozen (p := ⟨w.heap.size, 2, none⟩) (Nat.lt_of_succ_lt hz0)).trans t2
      have r04 := (HB4.out.cell (p := ⟨w.heap.size + 1, 0, none⟩) hz0).trans r0
      have r14 := (HB4.out.cell (p := ⟨w.heap.size + 1, 1, none⟩) hz0).trans r1
      have r24 := (HB4.out.cell (p := ⟨w.heap.size + 1, 2, none⟩) hz0).trans r2
      have u04 := (HB4.out.frozen (p := ⟨w.heap.size + 1, 0, none⟩) hz0).trans u0
      have u14 := (HB4.out.frozen (p := ⟨w.heap.size + 1, 1, none⟩) hz0).trans u1
      have u24 := (HB4.out.frozen (p := ⟨w.heap.size + 1, 2, none⟩) hz0).trans u2
      go_simp
      refine hK.out _ _ trivial (fun _ => ?_)
      clear hK K
      refine wpAnyH_done (by kernel_rfl) ?_ _
      go_wp2_with fail
      have HW := Lib.hid (show Below w.heap.size w _ from below_set3 (((HB.out.trans (HB4.out.mono HB.out.size)).setCell (p := ⟨w.heap.size, 2, none⟩) (Nat.le_refl _) (.slice A2 n2 c2))) (b := w.heap.size + 1) (Nat.le_succ _) (.string p.name) (.int .i64 p.ver) (.slice A2 n2 c2))
      have HOW := Lib.hid (own_set (own_set (own_set (own_set HO.out (b := w.heap.size) (Nat.lt_of_succ_lt hz0) 2 (.slice A2 n2 c2)) (b := w.heap.size + 1) hz0 0 (.string p.name)) (b := w.heap.size + 1) hz0 1 (.int .i64 p.ver)) (b := w.heap.size + 1) hz0 2 (.slice A2 n2 c2))
      refine bodyPost_ret (v := .tuple #[protV p.name p.ver A2 n2 c2, .bool true]) (by simp [results, Tryz.results32, go_sem, r04, r14, r24, protV]) rfl ?_
      exact fin_ques HH.out.1 HH.out.2.1 HH.out.2.2.2.1 HST.out HB.out.size HOW.out HN2.out HW.out
  · have HN1 := Lib.hid (new_obj U0 (.cells #[.string T, .slice none 0 0] 43))
    have hst := below_new U0 (.cells #[.string T, .slice none 0 0] 43)
    go_simp
    refine hK.out _ _ trivial (fun _ => ?_)
    clear hK K
    obtain ⟨U1, hU⟩ : ∃ U, U = U0.alloc (.cells #[.string T, .slice none 0 0] 43) := ⟨_, rfl⟩
    rw [← hU] at HN1 hst ⊢
    have HB1 := Lib.hid (HB0.out.trans (hst.mono HB0.out.size))
    have hlN := (show U0.heap.size < U1.heap.size by rw [hU]; exact lt_new _ _)
    clear hU hst
    refine wpAnyH_ready (rs := [0, 2]) (by kernel_rfl) (by simp) ?_
    refine AllReadyH.cons rfl (fun K hK => ?_) (AllReadyH.cons rfl (fun K hK => ?_) AllReadyH.nil)
    · have HE2 := Lib.hid (OwnR.lit (cs := cellsQ) (s := 2) (w := U1) cellsQ_len W0.heap.size 43 [] (n := U1.heap.size) rfl HB1.out.size (by decide) #[] rfl)
      have hst := below_new U1 (.cells #[] 43)
      go_simp
      refine hK.out _ _ trivial (fun _ => ?_)
      clear hK K
      obtain ⟨U2, hU⟩ : ∃ U, U = U1.alloc (.cells #[] 43) := ⟨_, rfl⟩
      rw [← hU] at HE2 hst ⊢
      have HB2 := Lib.hid (HB1.out.trans (hst.mono HB1.out.size))
      have hlE := (show U1.heap.size < U2.heap.size by rw [hU]; exact lt_new _ _)
      have HN2 := Lib.hid ((hst.block U0.heap.size hlN).trans HN1.out)
      have hne : U1.heap.size ≠ U0.heap.size := by omega
      replace hlN := Nat.lt_of_lt_of_le hlN hst.size
      clear hU hst
      refine wpAnyH_ready (rs := [2]) (by kernel_rfl) (by simp) ?_
      refine AllReadyH.cons rfl (fun K hK => ?_) AllReadyH.nil
      have f22 := (HB2.out.cell (p := ⟨w.heap.size, 2, none⟩) (Nat.lt_of_succ_lt hz0)).trans f2
      go_simp
      refine hK.out _ _ trivial (fun _ => ?_)
      clear hK K f22
      refine wpAnyH_ready (rs := [3]) (by kernel_rfl) (by simp) ?_
      refine AllReadyH.cons rfl (fun K hK => ?_) AllReadyH.nil
      refine step_append_recs (cs := cellsQ) (s := 2) U2 (by rfl) cellsQ_len (.tmp 22) (.tmp 24) 22 (by rfl) 43 Tryz.underlying22 ques_info rfl (by decide) (by decide) W0.heap.size _ [] rfl HE2.out w.heap.size p.qA p.qs.length p.qc p.qs rfl rfl HH.out.2.2.2.1.1.1 (RecsAt.below HROWS.out (HB2.out.mono HB.out.size)) (fun y _ => cellsQ_one y) (by simp; omega) HB2.out.size ?_
      intro v1 U3 hown1 hg1
      rw [List.nil_append] at hown1
      have HA3 := Lib.hid hown1
      have HB3 := Lib.hid (HB2.out.grown hg1 HB2.out.size (fun j hj => HE2.out.ge_base j hj))
      have HN3 := Lib.hid ((hg1.block U0.heap.size hlN (fun e => by injection e with e; exact hne e.symm)).trans HN2.out)
      replace hlN := Nat.lt_of_lt_of_le hlN hg1.size
      clear hown1 hg1
      refine hK.out _ _ trivial (fun _ => ?_)
      clear hK K
      show wpAnyH _ _ _ _ _ _ _ (Act.put _ (some 25) _) _
      simp only [Act.put, List.setIfInBounds_toArray, List.set_cons_zero, List.set_cons_succ]
      refine wpAnyH_ready (rs := [8]) (by kernel_rfl) (by simp) ?_
      refine AllReadyH.cons rfl (fun K hK => ?_) AllReadyH.nil
      refine step_append_recs (cs := cellsQ) (s := 2) U3 (by rfl) cellsQ_len (.tmp 25) (.tmp 29) 22 (by rfl) 43 Tryz.underlying22 ques_info rfl (by decide) (by decide) W0.heap.size _ p.qs rfl HA3.out U3.heap.size (some ⟨U0.heap.size, 0, none⟩) 1 1 [⟨T, none, [], 0⟩] rfl rfl (fun e => by cases e) (recs_row HN3.out rfl hlN) (fun y _ => cellsQ_one y) (by simp; omega) HB3.out.size ?_
      intro v2 U4 hown2 hg2
      have HB4 := Lib.hid (HB3.out.grown hg2 HB3.out.size (fun j hj => HA3.out.ge_base j hj))
      obtain ⟨A2, c2, rfl, _⟩ := OwnR.sl hown2
      have HO := Lib.hid hown2
      clear hown2 hg2
      refine hK.out _ _ trivial (fun _ => ?_)
      clear hK K
      show wpAnyH _ _ _ _ _ _ _ (Act.put _ (some 30) _) _
      simp only [Act.put, List.setIfInBounds_toArray, List.set_cons_zero, List.set_cons_succ]
      refine wpAnyH_take (i := 9) (v := .pointer (some ⟨w.heap.size, 2, none⟩)) rfl (by kernel_rfl) (by kernel_rfl) (by kernel_rfl) (fun _ _ _ h => h) (Or.inl ⟨by rfl, ?_⟩) (by assumption) ?_
      · intro w hSw
        go_simp
      show wpAnyH _ _ _ _ _ _ _ (Act.put _ (some 31) _) _
      simp only [Act.put, List.setIfInBounds_toArray, List.set_cons_zero, List.set_cons_succ]
      refine wpAnyH_ready (rs := [10]) (by kernel_rfl) (by simp) ?_
      refine AllReadyH.cons rfl (fun K hK => ?_) AllReadyH.nil
      obtain ⟨n2, hn2⟩ : ∃ n, n = (p.qs ++ [(⟨T, none, [], 0⟩ : Ques)]).length := ⟨_, rfl⟩
      rw [← hn2] at HO ⊢
      have HN2 := Lib.hid hn2
      clear hn2
      have f04 := (HB4.out.cell (p := ⟨w.heap.size, 0, none⟩) (Nat.lt_of_succ_lt hz0)).trans f0
      have f14 := (HB4.out.cell (p := ⟨w.heap.size, 1, none⟩) (Nat.lt_of_succ_lt hz0)).trans f1
      have f24 := (HB4.out.cell (p := ⟨w.heap.size, 2, none⟩) (Nat.lt_of_succ_lt hz0)).trans f2
      have t24 := (HB4.out.frozen (p := ⟨w.heap.size, 2, none⟩) (Nat.lt_of_succ_lt hz0)).trans t2
      have r04 := (HB4.out.cell (p := ⟨w.heap.size + 1, 0, none⟩) hz0).trans r0
      have r14 := (HB4.out.cell (p := ⟨w.heap.size + 1, 1, none⟩) hz0).trans r1
      have r24 := (HB4.out.cell (p := ⟨w.heap.size + 1, 2, none⟩) hz0).trans r2
      have u04 := (HB4.out.frozen (p := ⟨w.heap.size + 1, 0, none⟩) hz0).trans u0
      have u14 := (HB4.out.frozen (p := ⟨w.heap.size + 1, 1, none⟩) hz0).trans u1
      have u24 := (HB4.out.frozen (p := ⟨w.heap.size + 1, 2, none⟩) hz0).trans u2
      go_simp
      refine hK.out _ _ trivial (fun _ => ?_)
      clear hK K
      refine wpAnyH_done (by kernel_rfl) ?_ _
      go_wp2_with fail
      have HW := Lib.hid (show Below w.heap.size w _ from below_set3 (((HB.out.trans (HB4.out.mono HB.out.size)).setCell (p := ⟨w.heap.size, 2, none⟩) (Nat.le_refl _) (.slice A2 n2 c2))) (b := w.heap.size + 1) (Nat.le_succ _) (.string p.name) (.int .i64 p.ver) (.slice A2 n2 c2))
      have HOW := Lib.hid (own_set (own_set (own_set (own_set HO.out (b := w.heap.size) (Nat.lt_of_succ_lt hz0) 2 (.slice A2 n2 c2)) (b := w.heap.size + 1) hz0 0 (.string p.name)) (b := w.heap.size + 1) hz0 1 (.int .i64 p.ver)) (b := w.heap.size + 1) hz0 2 (.slice A2 n2 c2))
      refine bodyPost_ret (v := .tuple #[protV p.name p.ver A2 n2 c2, .bool true]) (by simp [results, Tryz.results32, go_sem, r04, r14, r24, protV]) rfl ?_
      exact fin_ques HH.out.1 HH.out.2.1 HH.out.2.2.2.1 HST.out HB.out.size HOW.out HN2.out HW.out
    · have f21 := (HB1.out.cell (p := ⟨w.heap.size, 2, none⟩) (Nat.lt_of_succ_lt hz0)).trans f2
      go_simp
      refine hK.out _ _ trivial (fun _ => ?_)
      clear hK K f21
      refine wpAnyH_ready (rs := [0]) (by kernel_rfl) (by simp) ?_
      refine AllReadyH.cons rfl (fun K hK => ?_) AllReadyH.nil
      have HE2 := Lib.hid (OwnR.lit (cs := cellsQ) (s := 2) (w := U1) cellsQ_len W0.heap.size 43 [] (n := U1.heap.size) rfl HB1.out.size (by decide) #[] rfl)
      have hst := below_new U1 (.cells #[] 43)
      go_simp
      refine hK.out _ _ trivial (fun _ => ?_)
      clear hK K
      obtain ⟨U2, hU⟩ : ∃ U, U = U1.alloc (.cells #[] 43) := ⟨_, rfl⟩
      rw [← hU] at HE2 hst ⊢
      have HB2 := Lib.hid (HB1.out.trans (hst.mono HB1.out.size))
      have hlE := (show U1.heap.size < U2.heap.size by rw [hU]; exact lt_new _ _)
      have HN2 := Lib.hid ((hst.block U0.heap.size hlN).trans HN1.out)
      have hne : U1.heap.size ≠ U0.heap.size := by omega
      replace hlN := Nat.lt_of_lt_of_le hlN hst.size
      clear hU hst
      refine wpAnyH_ready (rs := [3]) (by kernel_rfl) (by simp) ?_
      refine AllReadyH.cons rfl (fun K hK => ?_) AllReadyH.nil
      refine step_append_recs (cs := cellsQ) (s := 2) U2 (by rfl) cellsQ_len (.tmp 22) (.tmp 24) 22 (by rfl) 43 Tryz.underlying22 ques_info rfl (by decide) (by decide) W0.heap.size _ [] rfl HE2.out w.heap.size p.qA p.qs.length p.qc p.qs rfl rfl HH.out.2.2.2.1.1.1 (RecsAt.below HROWS.out (HB2.out.mono HB.out.size)) (fun y _ => cellsQ_one y) (by simp; omega) HB2.out.size ?_
      intro v1 U3 hown1 hg1
      rw [List.nil_append] at hown1
      have HA3 := Lib.hid hown1
      have HB3 := Lib.hid (HB2.out.grown hg1 HB2.out.size (fun j hj => HE2.out.ge_base j hj))
      have HN3 := Lib.hid ((hg1.block U0.heap.size hlN (fun e => by injection e with e; exact hne e.symm)).trans HN2.out)
      replace hlN := Nat.lt_of_lt_of_le hlN hg1.size
      clear hown1 hg1
      refine hK.out _ _ trivial (fun _ => ?_)
      clear hK K
      show wpAnyH _ _ _ _ _ _ _ (Act.put _ (some 25) _) _
      simp only [Act.put, List.setIfInBounds_toArray, List.set_cons_zero, List.set_cons_succ]
      refine wpAnyH_ready (rs := [8]) (by kernel_rfl) (by simp) ?_
      refine AllReadyH.cons rfl (fun K hK => ?_) AllReadyH.nil
      refine step_append_recs (cs := cellsQ) (s := 2) U3 (by rfl) cellsQ_len (.tmp 25) (.tmp 29) 22 (by rfl) 43 Tryz.underlying22 ques_info rfl (by decide) (by decide) W0.heap.size _ p.qs rfl HA3.out U3.heap.size (some ⟨U0.heap.size, 0, none⟩) 1 1 [⟨T, none, [], 0⟩] rfl rfl (fun e => by cases e) (recs_row HN3.out rfl hlN) (fun y _ => cellsQ_one y) (by simp; omega) HB3.out.size ?_
      intro v2 U4 hown2 hg2
      have HB4 := Lib.hid (HB3.out.grown hg2 HB3.out.size (fun j hj => HA3.out.ge_base j hj))
      obtain ⟨A2, c2, rfl, _⟩ := OwnR.sl hown2
      have HO := Lib.hid hown2
      clear hown2 hg2
      refine hK.out _ _ trivial (fun _ => ?_)
      clear hK K
      show wpAnyH _ _ _ _ _ _ _ (Act.put _ (some 30) _) _
      simp only [Act.put, List.setIfInBounds_toArray, List.set_cons_zero, List.set_cons_succ]
      refine wpAnyH_take (i := 9) (v := .pointer (some ⟨w.heap.size, 2, none⟩)) rfl (by kernel_rfl) (by kernel_rfl) (by kernel_rfl) (fun _ _ _ h => h) (Or.inl ⟨by rfl, ?_⟩) (by assumption) ?_
      · intro w hSw
        go_simp
      show wpAnyH _ _ _ _ _ _ _ (Act.put _ (some 31) _) _
      simp only [Act.put, List.setIfInBounds_toArray, List.set_cons_zero, List.set_cons_succ]
      refine wpAnyH_ready (rs := [10]) (by kernel_rfl) (by simp) ?_
      refine AllReadyH.cons rfl (fun K hK => ?_) AllReadyH.nil
      obtain ⟨n2, hn2⟩ : ∃ n, n = (p.qs ++ [(⟨T, none, [], 0⟩ : Ques)]).length := ⟨_, rfl⟩
      rw [← hn2] at HO ⊢
      have HN2 := Lib.hid hn2
      clear hn2
      have f04 := (HB4.out.cell (p := ⟨w.heap.size, 0, none⟩) (Nat.lt_of_succ_lt hz0)).trans f0
      have f14 := (HB4.out.cell (p := ⟨w.heap.size, 1, none⟩) (Nat.lt_of_succ_lt hz0)).trans f1
      have f24 := (HB4.out.cell (p := ⟨w.heap.size, 2, none⟩) (Nat.lt_of_succ_lt hz0)).trans f2
      have t24 := (HB4.out.frozen (p := ⟨w.heap.size, 2, none⟩) (Nat.lt_of_succ_lt hz0)).trans t2
      have r04 := (HB4.out.cell (p := ⟨w.heap.size + 1, 0, none⟩) hz0).trans r0
      have r14 := (HB4.out.cell (p := ⟨w.heap.size + 1, 1, none⟩) hz0).trans r1
      have r24 := (HB4.out.cell (p := ⟨w.heap.size + 1, 2, none⟩) hz0).trans r2
      have u04 := (HB4.out.frozen (p := ⟨w.heap.size + 1, 0, none⟩) hz0).trans u0
      have u14 := (HB4.out.frozen (p := ⟨w.heap.size + 1, 1, none⟩) hz0).trans u1
      have u24 := (HB4.out.frozen (p := ⟨w.heap.size + 1, 2, none⟩) hz0).trans u2
      go_simp
      refine hK.out _ _ trivial (fun _ => ?_)
      clear hK K
      refine wpAnyH_done (by kernel_rfl) ?_ _
      go_wp2_with fail
      have HW := Lib.hid (show Below w.heap.size w _ from below_set3 (((HB.out.trans (HB4.out.mono HB.out.size)).setCell (p := ⟨w.heap.size, 2, none⟩) (Nat.le_refl _) (.slice A2 n2 c2))) (b := w.heap.size + 1) (Nat.le_succ _) (.string p.name) (.int .i64 p.ver) (.slice A2 n2 c2))
      have HOW := Lib.hid (own_set (own_set (own_set (own_set HO.out (b := w.heap.size) (Nat.lt_of_succ_lt hz0) 2 (.slice A2 n2 c2)) (b := w.heap.size + 1) hz0 0 (.string p.name)) (b := w.heap.size + 1) hz0 1 (.int .i64 p.ver)) (b := w.heap.size + 1) hz0 2 (.slice A2 n2 c2))
      refine bodyPost_ret (v := .tuple #[protV p.name p.ver A2 n2 c2, .bool true]) (by simp [results, Tryz.results32, go_sem, r04, r14, r24, protV]) rfl ?_
      exact fin_ques HH.out.1 HH.out.2.1 HH.out.2.2.2.1 HST.out HB.out.size HOW.out HN2.out HW.out
end Go.Proofs.YtbbklideciappaaGreatDoor
