/-
  What config's walks ask of a world (the table of powers of ten, MaxLen, the names of the kinds); Itoa, FormatInt; plain lemmas on the lines of a configuration.
-/
import Derived.Test.YtloacoalmfaceaaGreatDoorAdd6
import Derived.OpenShut
namespace Go.Proofs.YtloacoalmfaceaaGreatDoor
open Go.RowKit Go.Maps Go.Shelf

/-- the variable kindNames. -/
def NamesAt (w : World) : Prop := w.cell? ⟨0, 0, none⟩ = some (.string ⟨#[98, 97, 115, 105, 99]⟩) ∧ w.cell? ⟨0, 1, none⟩ = some (.string ⟨#[100, 111, 99, 116, 111, 114]⟩) ∧
  w.cell? ⟨0, 2, none⟩ = some (.string ⟨#[99, 97, 114]⟩) ∧ w.cell? ⟨0, 3, none⟩ = some (.string ⟨#[97, 105, 114]⟩)
theorem lt_names : 0 < Tryz.prog.globals.size := of_decide_eq_true (by kernel_rfl)
theorem g_names : Tryz.prog.globalNamed "samaritan/config.kindNames" = some 0 := by kernel_rfl
theorem NamesAt.keep {w w' : World} {B : Nat} (h : NamesAt w) (hb : Below B w w') (hB : Tryz.prog.globals.size ≤ B) : NamesAt w' := by
  have hl : 0 < B := Nat.lt_of_lt_of_le lt_names hB
  exact ⟨(hb.cell (p := ⟨0, 0, none⟩) hl).trans h.1, (hb.cell (p := ⟨0, 1, none⟩) hl).trans h.2.1,
    (hb.cell (p := ⟨0, 2, none⟩) hl).trans h.2.2.1, (hb.cell (p := ⟨0, 3, none⟩) hl).trans h.2.2.2⟩
theorem NamesAt.at {w : World} (h : NamesAt w) {k : Int} (hk : KindOk k) : w.cell? ⟨0, (k - 1).toNat, none⟩ = some (.string (bs (kindName k))) := by
  unfold KindOk at hk
  have : k = 1 ∨ k = 2 ∨ k = 3 ∨ k = 4 := by omega
  rcases this with rfl | rfl | rfl | rfl
  · exact h.1
  · exact h.2.1
  · exact h.2.2.1
  · exact h.2.2.2
structure Rdy (w : World) : Prop where
  r : Ready w
  n : NamesAt w
theorem Rdy.below {w w' : World} (h : Rdy w) (hb : Below w.heap.size w w') : Rdy w' := ⟨h.r.below hb, h.n.keep hb h.r.room⟩
theorem itoaZ {n : Int} (h : 0 ≤ n) : Lib.itoa n = dec n := by
  unfold Lib.itoa dec
  rw [if_neg (by omega)]
theorem itoaZ_any (z : Int) (h0 : 0 ≤ z) (h1 : z ≤ 9223372036854775807) (w : World) (h : Rdy w) : Calls Tryz.prog 34 #[.int .i64 z] w fun e w' => e = .returned (.string (bs (dec z))) ∧ Below w.heap.size w w' := by
  refine (Tryz.strconv_Itoa z (by omega) h1 w h.r.tab).mono ?_
  rintro e w' ⟨rfl, k, os, rfl⟩
  rw [itoaZ h0]
  exact ⟨rfl, Lib.below_grow _ _ (Nat.le_refl _) _ _⟩
theorem fmtZ_any (z : Int) (h0 : 0 ≤ z) (h1 : z ≤ 9223372036854775807) (w : World) (h : Rdy w) : Calls Tryz.prog 35 #[.int .i64 z, .int .i64 10] w fun e w' => e = .returned (.string (bs (dec z))) ∧ Below w.heap.size w w' := by
  refine (Tryz.strconv_FormatInt_10 z (by omega) h1 w h.r.tab).mono ?_
  rintro e w' ⟨rfl, k, os, rfl⟩
  rw [itoaZ h0]
  exact ⟨rfl, Lib.below_grow _ _ (Nat.le_refl _) _ _⟩
/-- a configuration without a problem. -/
structure Fine (c : Cfg) : Prop where
  cen : 1 ≤ c.cen ∧ c.cen ≤ 9
  dl : 1 ≤ c.ds.length ∧ c.ds.length ≤ 4096
  ds : ∀ d ∈ c.ds, Idx d c.cen
  es : ∀ e ∈ c.es, EdgeOk c.ds.length e
  us : ∀ u ∈ c.us, UnitOk c.cen c.ds.length u
  pl : PlansOk c.pl
  ps : ParsTo c.ps 10
theorem fine_of {c : Cfg} (h : problem c = 0) : Fine c := by
  have e1 : 1 ≤ c.cen ∧ c.cen ≤ 9 := Classical.byContradiction fun n => by rw [prob_1 n] at h; cases h
  have e2 : 1 ≤ c.ds.length ∧ c.ds.length ≤ 4096 := Classical.byContradiction fun n => by rw [prob_2 e1 n] at h; cases h
  have e3 : ∀ d ∈ c.ds, Idx d c.cen := Classical.byContradiction fun n => by rw [prob_3 e1 e2 n] at h; cases h
  have e4 : (∀ e ∈ c.es, EdgeOk c.ds.length e) ∧ c.es.length ≤ 16384 := Classical.byContradiction fun n => by rw [prob_4 e1 e2 e3 n] at h; cases h
  have e5 : (∀ u ∈ c.us, UnitOk c.cen c.ds.length u) ∧ c.us.length ≤ 256 := Classical.byContradiction fun n => by rw [prob_5 e1 e2 e3 e4 n] at h; cases h
  have e6 : PlansOk c.pl := Classical.byContradiction fun n => by rw [prob_6 e1 e2 e3 e4 e5 n] at h; cases h
  have e7 : ParsTo c.ps 10 := Classical.byContradiction fun n => by rw [prob_7 e1 e2 e3 e4 e5 e6 n] at h; cases h
  exact ⟨e1, e2, e3, e4.1, e5.1, e6, e7⟩
theorem Fine.plan {c : Cfg} (h : Fine c) {k : Nat} {p : Plan} (hp : c.pl[k]? = some p) : PlanOk p := (h.pl.2 k p (List.getElem?_eq_some_iff.1 hp).1 hp).1
theorem Fine.par {c : Cfg} (h : Fine c) {k : Nat} (hk : k < 10) {z : Int} (hz : c.ps[k]? = some z) : 0 ≤ z ∧ z ≤ 1099511627776 := by
  have := h.ps k z hk hz
  have h0 : 0 ≤ parLow k := by unfold parLow; split <;> omega
  have h1 : parHigh k ≤ 1099511627776 := by
    unfold parHigh
    split
    · omega
    · split
      · omega
      · split <;> omega
  omega
/-- the lines of the first k of a list, behind others. -/
def acc {α : Type} (Lb : List (List UInt8)) (g : α → List (List UInt8)) (xs : List α) (k : Nat) : List (List UInt8) := Lb ++ (xs.take k).map (fun x => lineT (g x))
theorem acc_zero {α : Type} (Lb : List (List UInt8)) (g : α → List (List UInt8)) (xs : List α) : acc Lb g xs 0 = Lb := by simp [acc]
theorem acc_succ {α : Type} {Lb : List (List UInt8)} {g : α → List (List UInt8)} {xs : List α} {k : Nat} {x : α} (h : xs[k]? = some x) : acc Lb g xs k ++ [lineT (g x)] = acc Lb g xs (k + 1) := by
  unfold acc
  rw [take_snoc' h, List.map_append, List.append_assoc]
  rfl
theorem acc_len {α : Type} (Lb : List (List UInt8)) (g : α → List (List UInt8)) (xs : List α) (k : Nat) : (acc Lb g xs k).length ≤ Lb.length + xs.length := by
  unfold acc
  simp
  omega
theorem acc_all {α : Type} (Lb : List (List UInt8)) (g : α → List (List UInt8)) (xs : List α) : acc Lb g xs xs.length = Lb ++ (xs.map g).map lineT := by
  unfold acc
  rw [List.take_length, List.map_map]
  rfl
theorem join_none (L : List (List UInt8)) : Lib.join L [] = L.flatten := by
  cases L with
  | nil => rfl
  | cons x r =>
    rw [Lib.join_cons]
    unfold Lib.joinTail
    simp
/-- words that are short. -/
def Shorts (ws : List (List UInt8)) : Prop := ws.length ≤ 12 ∧ ∀ x ∈ ws, x.length ≤ 40
theorem line_len {ws : List (List UInt8)} (h : Shorts ws) : (lineT ws).length ≤ 500 := by
  unfold lineT
  have h1 := join_le [32] (by simp) h.2
  have h2 := h.1
  have h3 : (40 + 1) * ws.length ≤ 41 * 12 := Nat.mul_le_mul_left _ h2
  simp
  omega
theorem dec40 {z : Int} (h : z ≤ 9223372036854775807) : (dec z).length ≤ 40 := Nat.le_trans (dec_len h) (by omega)
theorem name40 (k : Int) : (kindName k).length ≤ 40 := Nat.le_trans (kindName_len k) (by omega)
theorem cen_short {z : Int} (h : z ≤ 9223372036854775807) : Shorts [wCentres, dec z] := ⟨by simp, by simp; exact ⟨by decide, dec40 h⟩⟩
theorem node_short {z : Int} (h : z ≤ 9223372036854775807) : Shorts (nodeW z) := ⟨by simp [nodeW], by simp [nodeW]; exact ⟨by decide, dec40 h⟩⟩
theorem time_len {z : Int} (h : z ≤ 9223372036854775807) : (timeT z).length ≤ 40 := by
  unfold timeT
  split
  · decide
  · exact dec40 h
theorem edge_short {e : T3} (ha : e.a ≤ 9223372036854775807) (hb : e.b ≤ 9223372036854775807) (hc : e.c ≤ 9223372036854775807) : Shorts (edgeW e) := ⟨by simp [edgeW], by simp [edgeW]; exact ⟨by decide, dec40 ha, dec40 hb, time_len hc⟩⟩
theorem unit_short {e : T3} (hb : e.b ≤ 9223372036854775807) (hc : e.c ≤ 9223372036854775807) : Shorts (unitW e) := ⟨by simp [unitW], by simp [unitW]; exact ⟨by decide, name40 _, dec40 hb, dec40 hc⟩⟩
theorem plan_short {p : Plan} (h : PlanOk p) : Shorts (planW p) := by
  obtain ⟨h1, h2, h3, _⟩ := h
  refine ⟨by simp [planW]; omega, fun x hx => ?_⟩
  simp only [planW, List.mem_cons, List.mem_map] at hx
  rcases hx with rfl | rfl | rfl | ⟨k, _, rfl⟩
  · decide
  · have := h1.1.2
    simpa using this
  · exact dec40 (by omega)
  · exact name40 k
theorem parNm_len : ∀ k, k < 10 → (parNm k).data.toList.length ≤ 40 := ten_cases (by decide) (by decide) (by decide) (by decide) (by decide) (by decide) (by decide) (by decide) (by decide) (by decide)
theorem par_short {k : Nat} (hk : k < 10) {z : Int} (h : z ≤ 9223372036854775807) : Shorts (parW k z) := ⟨by simp [parW], fun x hx => by
  simp only [parW, List.mem_cons, List.mem_nil_iff, or_false] at hx
  rcases hx with rfl | rfl
  · exact parNm_len k hk
  · exact dec40 h⟩
theorem parLs_short {c : Cfg} (h : Fine c) : ∀ k, k ≤ 10 → (parLs c.ps k).length ≤ k ∧ ∀ ws ∈ parLs c.ps k, Shorts ws
  | 0, _ => ⟨Nat.le_refl _, fun _ h => by cases h⟩
  | k + 1, hk => by
    obtain ⟨h1, h2⟩ := parLs_short h k (by omega)
    unfold parLs
    cases hz : c.ps[k]? with
    | none => simp; exact ⟨by omega, h2⟩
    | some z =>
      by_cases e : defPs[k]? = some z
      · simp [e]
        exact ⟨by omega, h2⟩
      · simp only [e, if_false, List.length_append, List.length_singleton, List.mem_append, List.mem_singleton]
        refine ⟨by omega, fun ws hw => ?_⟩
        rcases hw with hw | rfl
        · exact h2 ws hw
        · exact par_short (by omega) (by have := h.par (by omega) hz; omega)
theorem lines_short {c : Cfg} (h : Fine c) (hs : Short c) : (linesC c).length ≤ 300 ∧ ∀ ws ∈ linesC c, Shorts ws := by
  obtain ⟨s1, s2, s3, s4⟩ := hs
  obtain ⟨p1, p2⟩ := parLs_short h 10 (Nat.le_refl _)
  refine ⟨by simp [linesC]; omega, fun ws hw => ?_⟩
  simp only [linesC, List.mem_cons, List.mem_append, List.mem_map] at hw
  rcases hw with rfl | ⟨d, hd, rfl⟩ | ⟨e, he, rfl⟩ | ⟨u, hu, rfl⟩ | ⟨p, hp, rfl⟩ | hw
  · exact cen_short (by have := h.cen; omega)
  · have h1 := h.ds d hd
    unfold Idx at h1
    exact node_short (by have := h.cen; omega)
  · have h1 := h.es e he
    unfold EdgeOk Idx at h1
    exact edge_short (by omega) (by omega) (by omega)
  · have h1 := h.us u hu
    unfold UnitOk Idx at h1
    exact unit_short (by have := h.cen; omega) (by omega)
  · obtain ⟨k, hk⟩ := List.getElem?_of_mem hp
    exact plan_short (h.plan hk)
  · exact p2 ws hw
theorem flat_le {m : Nat} : ∀ (L : List (List (List UInt8))), (∀ ws ∈ L, (lineT ws).length ≤ m) → ((L.map lineT).flatten).length ≤ m * L.length
  | [], _ => Nat.zero_le _
  | x :: r, h => by
    have h1 := h x (by simp)
    have h2 := flat_le r (fun y hy => h y (by simp [hy]))
    simp only [List.map_cons, List.flatten_cons, List.length_append, List.length_cons] at *
    rw [Nat.mul_succ]
    omega
theorem line_le {m n : Nat} {ws : List (List UInt8)} (hn : ws.length ≤ n) (hm : ∀ x ∈ ws, x.length ≤ m) : (lineT ws).length ≤ (m + 1) * n + 1 := by
  unfold lineT
  have h1 := join_le [32] (by simp) hm
  have h3 : (m + 1) * ws.length ≤ (m + 1) * n := Nat.mul_le_mul_left _ hn
  simp
  omega
theorem name20 (k : Int) : (kindName k).length ≤ 20 := Nat.le_trans (kindName_len k) (by omega)
theorem parNm20 : ∀ k, k < 10 → (parNm k).data.toList.length ≤ 20 := ten_cases (by decide) (by decide) (by decide) (by decide) (by decide) (by decide) (by decide) (by decide) (by decide) (by decide)
theorem parLs_lines {c : Cfg} (h : Fine c) : ∀ k, k ≤ 10 → ∀ ws ∈ parLs c.ps k, (lineT ws).length ≤ 43
  | 0, _ => fun _ h => by cases h
  | k + 1, hk => by
    have h2 := parLs_lines h k (by omega)
    unfold parLs
    cases hz : c.ps[k]? with
    | none => simpa using h2
    | some z =>
      by_cases e : defPs[k]? = some z
      · simpa [e] using h2
      · simp only [e, if_false, List.mem_append, List.mem_singleton]
        intro ws hw
        rcases hw with hw | rfl
        · exact h2 ws hw
        · refine line_le (m := 20) (n := 2) (by simp [parW]) (fun x hx => ?_)
          simp only [parW, List.mem_cons, List.mem_nil_iff, or_false] at hx
          rcases hx with rfl | rfl
          · exact parNm20 k (by omega)
          · exact dec_len (by have := h.par (by omega) hz; omega)
theorem text_le {c : Cfg} (h : Fine c) (hs : Short c) : (textC c).length ≤ 65536 := by
  obtain ⟨s1, s2, s3, _⟩ := hs
  have s4 := h.pl.1
  have p1 := (parLs_short h 10 (Nat.le_refl _)).1
  have b1 := flat_le (m := 43) (c.ds.map nodeW) (fun ws hw => by
    obtain ⟨d, hd, rfl⟩ := List.mem_map.1 hw
    have h1 := h.ds d hd
    unfold Idx at h1
    refine line_le (m := 20) (n := 2) (by simp [nodeW]) ?_
    simp [nodeW]
    exact ⟨by decide, dec_len (by have := h.cen; omega)⟩)
  have b2 := flat_le (m := 85) (c.es.map edgeW) (fun ws hw => by
    obtain ⟨e, he, rfl⟩ := List.mem_map.1 hw
    have h1 := h.es e he
    unfold EdgeOk Idx at h1
    refine line_le (m := 20) (n := 4) (by simp [edgeW]) ?_
    simp [edgeW]
    refine ⟨by decide, dec_len (by omega), dec_len (by omega), ?_⟩
    unfold timeT
    split
    · decide
    · exact dec_len (by omega))
  have b3 := flat_le (m := 85) (c.us.map unitW) (fun ws hw => by
    obtain ⟨u, hu, rfl⟩ := List.mem_map.1 hw
    have h1 := h.us u hu
    unfold UnitOk Idx at h1
    refine line_le (m := 20) (n := 4) (by simp [unitW]) ?_
    simp [unitW]
    exact ⟨by decide, name20 _, dec_len (by have := h.cen; omega), dec_len (by omega)⟩)
  have b4 := flat_le (m := 500) (c.pl.map planW) (fun ws hw => by
    obtain ⟨p, hp, rfl⟩ := List.mem_map.1 hw
    obtain ⟨k, hk⟩ := List.getElem?_of_mem hp
    exact line_len (plan_short (h.plan hk)))
  have b5 := flat_le (m := 43) (parLs c.ps 10) (parLs_lines h 10 (Nat.le_refl _))
  have b0 : (lineT [wCentres, dec c.cen]).length ≤ 43 := line_le (m := 20) (n := 2) (by simp) (by simp; exact ⟨by decide, dec_len (by have := h.cen; omega)⟩)
  unfold textC linesC
  simp only [List.map_cons, List.map_append, List.flatten_cons, List.flatten_append, List.length_append, List.length_map] at b1 b2 b3 b4 b5 ⊢
  omega
end Go.Proofs.YtloacoalmfaceaaGreatDoor
