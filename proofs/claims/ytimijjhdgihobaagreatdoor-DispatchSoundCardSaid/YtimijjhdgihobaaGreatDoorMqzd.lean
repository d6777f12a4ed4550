/-
  dispatch.Assign: words, plain facts and memory.
  Plain: the example of samaritanlaw38.awake: its one choice, and the text.
-/
import Derived.Test.YtimijjhdgihobaaGreatDoorMqzc
import Derived.Test.YtimijjhdgihobaaGreatDoorMqu
namespace Go.Proofs.YtimijjhdgihobaaGreatDoor
section
open Go.RowKit Go.Maps

/-- rows of different types lie in different blocks. -/
theorem rowsOff {W : World} {base base' : Nat} {e e' : TypeId} {s s' n n' : Nat} {v v' : Value} {xs xs' : List Value} (h : W.ownsRow base e s v n xs) (h' : W.ownsRow base' e' s' v' n' xs') (hne : e ≠ e') {k : Nat} (hk : v.ownBlock = some k) : v'.ownBlock ≠ some k := by
  intro hk'
  obtain ⟨_, h2⟩ := h
  obtain ⟨_, h3⟩ := h'
  rcases h2 with ⟨rfl, _⟩ | ⟨g, cap, cur, rfl, _, hh, _⟩
  · cases hk
  · rcases h3 with ⟨rfl, _⟩ | ⟨g', cap', cur', rfl, _, hh', _⟩
    · cases hk'
    · cases hk
      cases hk'
      rw [hh] at hh'
      injection hh' with hh'
      injection hh' with _ ht
      exact hne ht
def cellsCh (c : ChoT) : List Value := [.int .i64 c.inc, .int .i64 c.kind, .int .i64 c.unit, .int .i64 c.time]
theorem cellsCh_len (c : ChoT) : (cellsCh c).length = 4 := rfl
theorem cellsCh_one (c : ChoT) : ∀ v ∈ cellsCh c, v.oneCell' = true := by
  intro v hv
  simp only [cellsCh, List.mem_cons, List.not_mem_nil, or_false] at hv
  rcases hv with rfl | rfl | rfl | rfl <;> rfl
abbrev ChosAt := RecsAt cellsCh
abbrev OwnCh := OwnR cellsCh 4
theorem cho_info : (Tryz.prog.info? 41).map (fun i => (i.zero, i.size, i.bytes)) = some (some (.agg #[.int .i64 0, .int .i64 0, .int .i64 0, .int .i64 0]), 4, 32) := by kernel_rfl
/-- the urgencies below g. -/
def urgs : Nat → List Int
  | 0 => []
  | 1 => []
  | g + 2 => urgs (g + 1) ++ [((g + 1 : Nat) : Int)]
theorem urgs_next {g : Nat} (h : 1 ≤ g) : urgs (g + 1) = urgs g ++ [(g : Int)] := by
  cases g with
  | zero => omega
  | succ g => rfl
theorem isC_max {a b : Int} (ha : isC a) (hb : isC b) : isC (max a b) := by
  unfold isC at ha hb ⊢
  omega
theorem farK_isC {D : List Int} (hD : ∀ (v : Nat) (d : Int), D[v]? = some d → isC d) : ∀ {zs : List Int} {a m : Int}, isC a → zs.foldl (farStep D) (some a) = some m → isC m
  | [], a, m, ha, h => by
    injection h with h
    exact h ▸ ha
  | z :: zs, a, m, ha, h => by
    rw [List.foldl_cons] at h
    by_cases hz : 0 ≤ z ∧ z < D.length
    · have e : farStep D (some a) z = some (max a (D.getD z.toNat 0)) := by simp [farStep, hz]
      rw [e] at h
      refine farK_isC hD (isC_max ha ?_) h
      have hl : z.toNat < D.length := by omega
      rw [List.getD_eq_getElem?_getD, List.getElem?_eq_getElem hl]
      exact hD z.toNat _ (List.getElem?_eq_getElem hl)
    · have e : farStep D (some a) z = none := by simp only [farStep, Option.bind_some, if_neg hz]
      rw [e, far_none] at h
      cases h
section
variable {n : Nat} {E : List EdgeT} {ts : List Int}
theorem TT.isC {z t : Int} {zs : List Int} (h : TT n E ts z zs t) : isC t := by
  obtain ⟨D, hF, rfl⟩ := h
  unfold farL
  split
  · exact .inl rfl
  · cases e : farK D zs with
    | none => exact .inl rfl
    | some m =>
      refine farK_isC (D := D) (fun v d hd => ?_) (.inr ⟨by decide, by decide⟩) (show zs.foldl (farStep D) (some 0) = some m from e)
      by_cases hi : d = 4611686018427387904
      · exact .inl hi
      · exact .inr (hF.small v d hd hi)
theorem CostS.isC {s : SlotP} {u : UnitT} {c : Int} (h : CostS n E ts s u c) : isC c := by
  cases hs : satB u.kind s.kind
  · exact .inl (h.2 hs)
  · exact (h.1 hs).isC
theorem MatR.cost {ss : List SlotP} {us : List UnitT} {M : List (List Int)} (h : MatR n E ts ss us M) {i k : Nat} {s : SlotP} {u : UnitT} (hs : ss[i]? = some s) (hu : us[k]? = some u) : CostS n E ts s u (cF M i k) := by
  have hi := (List.getElem?_eq_some_iff.1 hs).1
  have hk := (List.getElem?_eq_some_iff.1 hu).1
  have hm : M[i]? = some (M[i]'(by rw [h.len]; exact hi)) := List.getElem?_eq_getElem _
  obtain ⟨h1, h2⟩ := h.row i s _ hs hm
  have hc : (M[i]'(by rw [h.len]; exact hi))[k]? = some _ := List.getElem?_eq_getElem (by rw [h1]; exact hk)
  have := h2 k u _ hu hc
  unfold cF
  rw [hm]
  show CostS n E ts s u (((M[i]'(by rw [h.len]; exact hi))[k]?).getD 0)
  rw [hc]
  exact this
theorem MatR.isC {ss : List SlotP} {us : List UnitT} {M : List (List Int)} (h : MatR n E ts ss us M) : ∀ l ∈ M, ∀ x ∈ l, isC x := by
  intro l hl x hx
  obtain ⟨i, hi, e⟩ := List.getElem_of_mem hl
  obtain ⟨k, hk, e2⟩ := List.getElem_of_mem hx
  have hs : ss[i]? = some (ss[i]'(by rw [← h.len]; exact hi)) := List.getElem?_eq_getElem _
  obtain ⟨h1, h2⟩ := h.row i _ l hs (by rw [List.getElem?_eq_getElem hi, e])
  have hu : us[k]? = some (us[k]'(by rw [← h1]; exact hk)) := List.getElem?_eq_getElem _
  exact (h2 k _ x hu (by rw [List.getElem?_eq_getElem hk, e2])).isC
end
theorem spareR_mem {r : Int} {us : List UnitT} : ∀ {k : Nat} {u : UnitT}, u ∈ spareR r us k → u ∈ us
  | 0, u, h => by simp [spareR] at h
  | k + 1, u, h => by
    rw [spareR] at h
    split at h
    · rename_i u' hu'
      split at h
      · rcases List.mem_append.1 h with h | h
        · exact spareR_mem h
        · rw [List.mem_singleton] at h
          rw [h]
          exact List.mem_of_getElem? hu'
      · exact spareR_mem h
    · exact spareR_mem h
theorem slotsL_mem {xs : List IncT} {us : List UnitT} {ps : List Plan} {s : SlotP} (h : s ∈ slotsL xs us ps) : ∃ x ∈ xs, openI x = true ∧ s.inc = x.id ∧ s.urg = x.urg ∧ s.nodes = x.nodes := by
  unfold slotsL at h
  obtain ⟨x, hx, hs⟩ := List.mem_flatMap.1 h
  have hx := List.mem_filter.1 (mem_sortK.1 hx)
  obtain ⟨k, _, rfl⟩ := List.mem_map.1 hs
  exact ⟨x, hx.1, hx.2, rfl, rfl, rfl⟩
theorem slotsU_mem {xs : List IncT} {us : List UnitT} {ps : List Plan} {g : Int} {s : SlotP} (h : s ∈ slotsU xs us ps g) : s ∈ slotsL xs us ps ∧ s.urg = g := by
  have h := List.mem_filter.1 (List.mem_of_mem_take h)
  exact ⟨h.1, by simpa using h.2⟩
theorem slotsU_len (xs : List IncT) (us : List UnitT) (ps : List Plan) (g : Int) : (slotsU xs us ps g).length ≤ 64 := by
  unfold slotsU
  exact List.length_take_le _ _
theorem slotsL_len {xs : List IncT} {us : List UnitT} {ps : List Plan} (h : smallP ps = true) (hl : xs.length ≤ 19) : (slotsL xs us ps).length ≤ 65536 := by
  unfold slotsL
  have h1 := slots_len h us (sortK (xs.filter openI))
  have h2 := sortK_len (xs.filter openI)
  have h3 := List.length_filter_le openI xs
  omega
theorem candU_len (n : Nat) (E : List EdgeT) (ts : List Int) (ss : List SlotP) (us : List UnitT) : (candU n E ts ss us).length ≤ 64 := by
  unfold candU
  exact List.length_take_le _ _
theorem candU_mem {n : Nat} {E : List EdgeT} {ts : List Int} {ss : List SlotP} {us : List UnitT} {u : UnitT} (h : u ∈ candU n E ts ss us) : u ∈ us := (List.mem_filter.1 (List.mem_of_mem_take h)).1
theorem sendU_wf {us : List UnitT} {c : ChoT} (h : ∀ u ∈ us, UnitWf u) (hc : (Lit.int .i64 c.inc).wf = true) : ∀ u ∈ sendU us c, UnitWf u := by
  intro u hu
  obtain ⟨v, hv, rfl⟩ := List.mem_map.1 hu
  have hw := h v hv
  split
  · exact ⟨hw.kind, hw.home, hw.node, hc⟩
  · exact hw
theorem sendAll_wf : ∀ {cs : List ChoT} {us : List UnitT}, (∀ u ∈ us, UnitWf u) → (∀ c ∈ cs, (Lit.int .i64 c.inc).wf = true) → ∀ u ∈ cs.foldl sendU us, UnitWf u
  | [], _, h, _ => h
  | c :: cs, _, h, hc => sendAll_wf (cs := cs) (sendU_wf h (hc c (List.mem_cons_self))) (fun d hd => hc d (List.mem_cons_of_mem _ hd))
theorem sendAll_len : ∀ (cs : List ChoT) (us : List UnitT), (cs.foldl sendU us).length = us.length
  | [], _ => rfl
  | c :: cs, us => by rw [List.foldl_cons, sendAll_len cs, sendU_len]
/-- the choice at a place. -/
theorem choP_some {ss : List SlotP} {us : List UnitT} {M : List (List Int)} {m : List Int} {i k : Nat} {s : SlotP} {u : UnitT} (hm : mF m i = (k : Int)) (hs : ss[i]? = some s) (hu : us[k]? = some u) : choP ss us M m i = some ⟨s.inc, s.kind, u.id, cF M i k⟩ := by
  unfold choP
  rw [hm, if_pos (Int.natCast_nonneg k), Int.toNat_natCast, hs, hu]
theorem choP_none {ss : List SlotP} {us : List UnitT} {M : List (List Int)} {m : List Int} {i : Nat} (hm : mF m i = -1) : choP ss us M m i = none := by
  unfold choP
  rw [hm, if_neg (by decide)]
theorem choTo_yes {ss : List SlotP} {us : List UnitT} {M : List (List Int)} {m : List Int} {i : Nat} {c : ChoT} (h : choP ss us M m i = some c) : choTo ss us M m (i + 1) = choTo ss us M m i ++ [c] := by
  rw [choTo_succ, h]
  rfl
theorem choTo_no {ss : List SlotP} {us : List UnitT} {M : List (List Int)} {m : List Int} {i : Nat} (h : choP ss us M m i = none) : choTo ss us M m (i + 1) = choTo ss us M m i := by
  rw [choTo_succ, h]
  simp
theorem choTo_len (ss : List SlotP) (us : List UnitT) (M : List (List Int)) (m : List Int) (k : Nat) : (choTo ss us M m k).length ≤ k := by
  have := List.length_filterMap_le (choP ss us M m) (List.range k)
  unfold choTo
  simpa using this
theorem choTo_mem {ss : List SlotP} {us : List UnitT} {M : List (List Int)} {m : List Int} {k : Nat} {c : ChoT} (h : c ∈ choTo ss us M m k) : ∃ (i j : Nat) (s : SlotP) (u : UnitT), i < k ∧ mF m i = (j : Int) ∧ ss[i]? = some s ∧ us[j]? = some u ∧ c = ⟨s.inc, s.kind, u.id, cF M i j⟩ := by
  unfold choTo at h
  obtain ⟨i, hi, hc⟩ := List.mem_filterMap.1 h
  unfold choP at hc
  split at hc
  · rename_i h0
    split at hc
    · rename_i s u hs hu
      injection hc with hc
      exact ⟨i, (mF m i).toNat, s, u, List.mem_range.1 hi, by omega, hs, hu, hc.symm⟩
    · cases hc
  · cases hc
theorem StepR.len {n : Nat} {E : List EdgeT} {ts : List Int} {xs : List IncT} {ps : List Plan} {rsv urg : Int} {us us' : List UnitT} {cs : List ChoT} (h : StepR n E ts xs ps rsv urg us cs us') : cs.length ≤ 64 ∧ us'.length = us.length := by
  obtain ⟨M, m, _, _, _, rfl, rfl⟩ := h
  refine ⟨Nat.le_trans (choTo_len _ _ _ _ _) (slotsU_len _ _ _ _), sendAll_len _ _⟩
theorem flat_oneI (l : List Int) : l.flatMap oneI = l.map (Value.int .i64) := by
  induction l with
  | nil => rfl
  | cons x l ih => rw [List.flatMap_cons, ih]; rfl
/-- the rows of costs as a matrix. -/
theorem fam_mat {Y : World} {gb R : Nat} {F : Nat → Value} {P : Nat → List Int} {M : List (List Int)} (h : FamI Y gb R F P) (hM : M.length = R) (hp : ∀ i, i < R → M[i]? = some (P i)) (hgb : gb < Y.heap.size) : MatAt Y Y.heap.size (some ⟨gb, 0, none⟩) M := by
  refine ⟨(List.range R).map F, by simp [hM], fun j u hj => ?_, fun i row hr => ?_⟩
  · rw [List.getElem?_map, Option.map_eq_some_iff] at hj
    obtain ⟨k, hk, rfl⟩ := hj
    have hlt : j < R := by simpa using (List.getElem?_eq_some_iff.1 hk).1
    rw [List.getElem?_range hlt] at hk
    injection hk with hk
    subst hk
    refine ⟨gb, 0, rfl, hgb, ?_⟩
    rw [Nat.zero_add]
    exact h.cell j hlt
  · have hi : i < R := by rw [← hM]; exact (List.getElem?_eq_some_iff.1 hr).1
    rw [hp i hi] at hr
    injection hr with hr
    obtain ⟨A, c, e, hs⟩ := OwnR.sl (h.own i hi)
    refine ⟨A, c, ?_, ?_⟩
    · rw [List.getElem?_map, List.getElem?_range hi]
      show some (F i) = _
      rw [e, hr]
    · unfold RecsAt at hs
      rw [flat_oneI, hr] at hs
      exact hs
/-- what Assign returns. -/
def RetAsg (w : World) (n : Nat) (E : List EdgeT) (ts : List Int) (xs : List IncT) (ps : List Plan) (rsv : Int) (us : List UnitT) (e : Ending) (w' : World) : Prop :=
  ∃ v cs us', e = .returned v ∧ RunR n E ts xs ps rsv [1, 2, 3, 4, 5] us cs us' ∧ OwnCh w' w.heap.size 41 v cs ∧ cs.length ≤ 320 ∧ Below w.heap.size w w'
end
section
open Go.RowKit Go.Maps

def dE : List EdgeT := [⟨0, 1, 5⟩]
def dI (A : Option Addr) : IncT := ⟨7, 1, ⟨#[120]⟩, A, [1], 1, 0, 0, none, 0, 0, none, 0, 0, 0, false⟩
def dU : UnitT := ⟨3, 1, 0, 1, 0, 0, 0, 0, 0, 0⟩
def dS : SlotP := ⟨7, 1, 0, 1, [1]⟩
theorem d_times : timesL [5] 1 = [5] := by decide
theorem d_usable {i u v : Nat} {x : Int} (h : usable dE [5] i u v x) : u = 0 ∧ v = 1 ∧ x = 5 := by
  obtain ⟨e, h1, h2, h3, h4, _⟩ := h
  match i, h1, h4 with
  | 0, h1, h4 =>
    cases h1
    cases h4
    simp only at h2 h3
    omega
  | i + 1, h1, _ => simp [dE] at h1
theorem d_fin : Fin35 2 (fun s => (s : Int) ∈ [(0 : Int)] ∧ s < 2) dE (timesL [5] dE.length) [0, 5] := by
  have e2 : dE.length = 1 := rfl
  rw [e2, d_times]
  have w0 : Way (fun s : Nat => (s : Int) ∈ [(0 : Int)] ∧ s < 2) dE [5] 0 0 := Way.src ⟨by simp, by omega⟩
  have w1 : Way (fun s : Nat => (s : Int) ∈ [(0 : Int)] ∧ s < 2) dE [5] 1 5 := Way.step (i := 0) (x := 5) w0 ⟨_, rfl, rfl, rfl, rfl, by decide⟩
  refine ⟨rfl, fun v d hd _ => ?_, fun s hs => ?_, fun i u v x d hu hd _ => ?_, fun v d hd _ => ?_⟩
  · match v, hd with
    | 0, hd => cases hd; exact w0
    | 1, hd => cases hd; exact w1
    | v + 2, hd => simp at hd
  · have : s = 0 := by have := hs.1; simp at this; omega
    subst this
    rfl
  · obtain ⟨rfl, rfl, rfl⟩ := d_usable hu
    cases hd
    exact ⟨5, rfl, by omega⟩
  · match v, hd with
    | 0, hd => cases hd; omega
    | 1, hd => cases hd; omega
    | v + 2, hd => simp at hd
theorem d_cost : CostS 2 dE [5] dS dU 5 := ⟨fun _ => ⟨_, d_fin, by decide⟩, fun h => by cases h⟩
theorem d_slots (A : Option Addr) : slotsU [dI A] [dU] [] 1 = [dS] := rfl
theorem d_slots2 (A : Option Addr) {g : Int} (h : g ≠ 1) (us : List UnitT) : slotsU [dI A] us [] g = [] := by
  unfold slotsU
  rw [List.filter_eq_nil_iff.2 (fun s hs => ?_)]
  · rfl
  · obtain ⟨x, hx, _, _, e, _⟩ := slotsL_mem hs
    rw [List.mem_singleton] at hx
    subst hx
    rw [e]
    show ¬ ((1 : Int) == g) = true
    simp only [beq_iff_eq]
    exact fun e => h e.symm
theorem d_cand : candU 2 dE [5] [dS] [dU] = [dU] := by
  have h : ReachP 2 dE [5] [dS] dU := ⟨dS, List.mem_singleton.2 rfl, 5, d_cost, by decide⟩
  unfold candU
  rw [List.filter_cons_of_pos (by simpa using h)]
  rfl
theorem d_mat : MatR 2 dE [5] [dS] [dU] [[5]] := by
  refine ⟨rfl, fun i s r hs hr => ?_⟩
  match i, hs, hr with
  | 0, hs, hr =>
    cases hs
    cases hr
    refine ⟨rfl, fun j u c hu hc => ?_⟩
    match j, hu, hc with
    | 0, hu, hc =>
      cases hu
      cases hc
      exact d_cost
    | j + 1, hu, _ => simp at hu
  | i + 1, hs, _ => simp at hs
theorem d_best : Bst (cF [[5]]) 1 1 (mF [0]) := by
  have hm : mF [0] 0 = 0 := rfl
  refine ⟨⟨fun i hi => .inr ⟨0, by omega, ?_, ?_⟩, fun i j hi hj _ _ => by omega⟩, fun x hx hb => ?_⟩
  · obtain rfl : i = 0 := by omega
    rfl
  · obtain rfl : i = 0 := by omega
    decide
  · have c1 : cnA (mF [0]) 1 = 1 := by simp [cnA, sumTo, hm]
    have s1 : smA (cF [[5]]) (mF [0]) 1 = 5 := by simp [smA, sumTo, hm, cF]
    unfold btA ahA at hb
    rw [c1, s1] at hb
    rcases hx.at_ 0 (by omega) with e | ⟨k, hk, e, _⟩
    · have c2 : cnA x 1 = 0 := by simp [cnA, sumTo, e]
      rw [c2] at hb
      omega
    · obtain rfl : k = 0 := by omega
      have e0 : x 0 = 0 := e
      have c2 : cnA x 1 = 1 := by simp [cnA, sumTo, e0]
      have s2 : smA (cF [[5]]) x 1 = 5 := by simp [smA, sumTo, e0, cF]
      rw [c2, s2] at hb
      rcases hb with hb | ⟨_, hb | ⟨_, i, hi, _, hne, _⟩⟩
      · omega
      · omega
      · obtain rfl : i = 0 := by omega
        exact hne (e0.trans hm.symm)
theorem d_step (A : Option Addr) : StepR 2 dE [5] [dI A] [] 1 1 [dU] [⟨7, 1, 3, 5⟩] ([⟨7, 1, 3, 5⟩].foldl sendU [dU]) := by
  refine ⟨[[5]], [0], ?_, ?_, ?_, ?_, rfl⟩
  · rw [d_slots]
    show MatR 2 dE [5] [dS] (candU 2 dE [5] [dS] [dU]) [[5]]
    rw [d_cand]
    exact d_mat
  · rw [d_slots]
    rfl
  · rw [d_slots]
    show Bst (cF [[5]]) 1 (candU 2 dE [5] [dS] [dU]).length (mF [0])
    rw [d_cand]
    exact d_best
  · rw [d_slots]
    show _ = choTo [dS] (candU 2 dE [5] [dS] [dU]) [[5]] [0] 1
    rw [d_cand]
    rfl
theorem d_run (A : Option Addr) : ∃ us', RunR 2 dE [5] [dI A] [] 1 [1, 2, 3, 4, 5] [dU] [⟨7, 1, 3, 5⟩] us' := by
  refine ⟨_, _, _, [], d_step A, ⟨_, _, [], StepR.none (d_slots2 A (by decide) _), ⟨_, _, [], StepR.none (d_slots2 A (by decide) _), ⟨_, _, [], StepR.none (d_slots2 A (by decide) _), ⟨_, _, [], StepR.none (d_slots2 A (by decide) _), ⟨rfl, rfl⟩, rfl⟩, rfl⟩, rfl⟩, rfl⟩, rfl⟩
theorem itoa_small {n : Nat} (h : n < 10) : Lib.itoa (n : Int) = [UInt8.ofNat (48 + n)] := by
  rw [Lib.itoa_nonneg, dec_small h]
theorem d_text : choX ⟨7, 1, 3, 65⟩ = ⟨#[105, 110, 99, 105, 100, 101, 110, 116, 32, 55, 58, 32, 98, 97, 115, 105, 99, 32, 117, 110, 105, 116, 32, 51, 32, 105, 110, 32, 49, 109, 32, 53, 115]⟩ := by
  have h65 : span (hold 65) = [49, 109, 32, 53, 115] := by
    rw [show hold 65 = 65 by decide, span, if_neg (by decide), parts, if_neg (by decide), if_pos (by decide), if_pos (by decide), show ((65 : Int) % 3600 / 60).toNat = 1 by decide, show ((65 : Int) % 60).toNat = 5 by decide,
      dec_small (n := 1) (by decide), dec_small (n := 5) (by decide)]
    rfl
  unfold choX
  rw [if_pos (by decide)]
  show _ ++ bs (Lib.itoa ((7 : Nat) : Int)) ++ _ ++ bs (kindName 1) ++ _ ++ bs (Lib.itoa ((3 : Nat) : Int)) ++ _ ++ bs (span (hold 65)) = _
  rw [h65, itoa_small (by decide), itoa_small (by decide)]
  rfl
end
end Go.Proofs.YtimijjhdgihobaaGreatDoor
