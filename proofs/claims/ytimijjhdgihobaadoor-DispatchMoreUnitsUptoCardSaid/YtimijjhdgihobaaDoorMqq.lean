/-
  shortestpath.From: the least travel times from the sources.
  dispatchcost.farthest and TravelTime.
  dispatchcost.TravelTime.
  samaritanref09.never and Time.
  Plain: n rounds over all edges (the reference's way) give the least lengths.
  Plain: the reference's distances before its first round.
  samaritanref09.From: the least travel times too.
  samaritanref35.Time: the same as dispatchcost.TravelTime.
-/
import Derived.Test.YtimijjhdgihobaaDoorMqp
import Derived.Test.YtimijjhdgihobaaDoorMqn
import Derived.IntWalk
namespace Go.Proofs.YtimijjhdgihobaaDoor
section
open Go.RowKit Go.Shelf Go.Maps

theorem own_sl {α : Type} {f : α → Value} {w : World} {base : Nat} {e : TypeId} {A : Option Addr} {n c : Nat} {zs : List α} (h : OwnV f w base e (.slice A n c) zs) : Sl w w.heap.size A (zs.map f) := by
  obtain ⟨A', c', e1, h1⟩ := OwnV.sl h
  cases e1
  exact h1
theorem timesL_len (ts : List Int) (m : Nat) : (timesL ts m).length = m := by simp [timesL]
theorem okW_times (ts : List Int) (m : Nat) : okW (timesL ts m) := fun i x h hne => by
  unfold timesL at h
  rw [List.getElem?_map] at h
  cases hr : (List.range m)[i]? with
  | none => rw [hr] at h; cases h
  | some j =>
    rw [hr] at h
    simp only [Option.map_some, Option.some.injEq] at h
    subst h
    obtain ⟨h1, h2 | h2⟩ := wAt_range ts j
    · exact ⟨h1, h2⟩
    · exact absurd h2 hne

set_option maxRecDepth 100000 in
set_option maxHeartbeats 1000000 in
theorem from_any (p n : Nat) (E : List EdgeT) (A A2 : Option Addr) (c c2 : Nat) (ts ss : List Int) (w : World) (hg : GraphAt w w.heap.size p n E) (hn : n ≤ 256) (hE : E.length ≤ 16384) (hok : ∀ e ∈ E, 0 ≤ e.dst ∧ e.dst < n) (hs : Sl w w.heap.size A (ts.map (Value.int .i64))) (hss : Sl w w.heap.size A2 (ss.map (Value.int .i64))) (hsl : ss.length ≤ 16384) :
    Calls Tryd.prog 60 #[.pointer (some ⟨p, 0, none⟩), .slice A ts.length c, .slice A2 ss.length c2] w (RetSearch w n (fun s => (s : Int) ∈ ss ∧ s < n) E (timesL ts E.length)) := by
  have HT := Lib.hid (travelTimes_any p n E A c ts w hg hE hs)
  have HG := Lib.hid hg
  have HSS := Lib.hid hss
  have HOK := Lib.hid hok
  clear hg hs hss hok
  go_enter Tryd.func60, Tryd.ntmps60
  go_wp2_with fail
  refine HT.out.mono ?_
  rintro e w1 ⟨g, rfl, hown, hb⟩
  have hb' := hb.size
  have hslw : Sl w1 w1.heap.size (some ⟨g, 0, none⟩) ((timesL ts E.length).map (Value.int .i64)) := own_sl hown
  have hse := search_any p n E (some ⟨g, 0, none⟩) A2 E.length c2 (timesL ts E.length) ss w1 ((HG.out.below hb).more hb') hn hE (timesL_len _ _) HOK.out (okW_times _ _) hslw ((HSS.out.below hb).more hb') hsl
  rw [timesL_len] at hse
  have HSE := Lib.hid hse
  clear hse hslw hown
  go_wp2_with fail
  refine HSE.out.mono ?_
  rintro e w2 ⟨D, g2, rfl, h1, h2, h3⟩
  go_wp2_with fail
  go_ret
  exact ⟨D, g2, rfl, OwnV.base_le h1 hb', h2, hb.trans (h3.mono hb')⟩
end
section
open Go.RowKit Go.Shelf Go.Maps

/-- one node more. -/
def farStep (D : List Int) (acc : Option Int) (z : Int) : Option Int := acc.bind fun m => if 0 ≤ z ∧ z < D.length then some (max m (D.getD z.toNat 0)) else none
def farK (D zs : List Int) : Option Int := zs.foldl (farStep D) (some 0)
def farL (D zs : List Int) : Int := if zs = [] then 4611686018427387904 else (farK D zs).getD 4611686018427387904
theorem farK_snoc (D zs : List Int) (z : Int) : farK D (zs ++ [z]) = farStep D (farK D zs) z := by simp [farK]
theorem far_none (D zs : List Int) : zs.foldl (farStep D) none = none := by
  induction zs with
  | nil => rfl
  | cons z zs ih => exact ih
theorem farK_none {D zs : List Int} {k : Nat} {z m : Int} (h : farK D (zs.take k) = some m) (hz : zs[k]? = some z) (hn : ¬ (0 ≤ z ∧ z < D.length)) : farK D zs = none := by
  have hl := (List.getElem?_eq_some_iff.1 hz).1
  have e : zs = zs.take k ++ (z :: zs.drop (k + 1)) := by
    rw [← (List.getElem?_eq_some_iff.1 hz).2, ← List.drop_eq_getElem_cons hl, List.take_append_drop]
  rw [e]
  unfold farK at h ⊢
  rw [List.foldl_append, h, List.foldl_cons]
  have : farStep D (some m) z = none := by simp [farStep, hn]
  rw [this]
  exact far_none _ _

set_option maxRecDepth 100000 in
set_option maxHeartbeats 1000000 in
theorem farthest_any (A A2 : Option Addr) (c c2 : Nat) (D zs : List Int) (w : World) (B : Nat) (hs : Sl w B A (D.map (Value.int .i64))) (hss : Sl w B A2 (zs.map (Value.int .i64))) (hzl : zs.length ≤ 16384) :
    Calls Tryd.prog 61 #[.slice A D.length c, .slice A2 zs.length c2] w fun e w' => e = .returned (.int .i64 (farL D zs)) ∧ w = w' := by
  have HS := Lib.hid hs
  have HSS := Lib.hid hss
  clear hs hss
  go_enter Tryd.func61, Tryd.ntmps61
  by_cases h0 : zs.length = 0
  · have d0 : ((zs.length : Int) == 0) = true := beq_iff_eq.2 (by omega)
    have d0' : (zs.length == 0) = true := beq_iff_eq.2 h0
    have H0 := Lib.hid h0
    clear h0
    go_wp2_with fail
    go_ret
    refine ⟨?_, rfl⟩
    rw [farL, if_pos (List.length_eq_zero_iff.1 H0.out)]
    rfl
  · have d0 : ((zs.length : Int) == 0) = false := beq_eq_false_iff_ne.2 (by omega)
    have d0' : (zs.length == 0) = false := beq_eq_false_iff_ne.2 h0
    have HNE : Hid (zs ≠ []) := Lib.hid (fun e => h0 (by rw [e]; rfl))
    clear h0
    go_wp2_with fail
    go_loopw [5, 13] (fun mv iv wr => ∃ (k : Nat) (m : Int), k ≤ zs.length ∧ iv = .int .i64 k ∧ mv = .int .i64 m ∧ wr = w ∧ farK D (zs.take k) = some m) (fun _ i _ => zs.length - (intOf i).toNat)
    case atStart => exact ⟨0, 0, Nat.zero_le _, rfl, rfl, rfl, rfl⟩
    case round =>
      obtain ⟨k, m, hk, rfl, rfl, rfl, hm⟩ := hrel
      have HM := Lib.hid hm
      clear hm
      by_cases hlt : k < zs.length
      · obtain ⟨z, hz⟩ : ∃ z, zs[k]? = some z := ⟨zs[k], by simp⟩
        obtain ⟨b, o, rfl, hb, hc⟩ := HSS.out.int hz
        have HZ := Lib.hid hz
        have HTK : Hid (zs.take (k + 1) = zs.take k ++ [z]) := Lib.hid (by
          have hl := (List.getElem?_eq_some_iff.1 hz).1
          rw [List.take_succ_eq_append_getElem hl, (List.getElem?_eq_some_iff.1 hz).2])
        clear hz
        by_cases hnode : 0 ≤ z ∧ z < D.length
        · obtain ⟨t, rfl⟩ : ∃ t : Nat, z = (t : Int) := ⟨z.toNat, by omega⟩
          have htn : t < D.length := by omega
          have htj : (t : Int) < (D.length : Int) := by omega
          have e1 : decide ((t : Int) < 0) = false := decide_eq_false (by omega)
          have e2 : decide ((D.length : Int) ≤ (t : Int)) = false := decide_eq_false (by omega)
          have e2' : decide (D.length ≤ t) = false := decide_eq_false (by omega)
          obtain ⟨dt, hdt⟩ : ∃ dt, D[t]? = some dt := ⟨D[t], by simp⟩
          obtain ⟨b2, o2, rfl, hb2, hc2⟩ := HS.out.int hdt
          have HD := Lib.hid hdt
          clear hdt hnode
          go_wp2_with fail
          go_roundw
          case rel =>
            refine ⟨k + 1, max m dt, by omega, by go_num, by congr 1; split <;> omega, trivial, ?_⟩
            rw [HTK.out, farK_snoc, HM.out]
            have hg : D.getD (t : Int).toNat 0 = dt := by rw [Int.toNat_natCast, List.getD_eq_getElem?_getD, HD.out]; rfl
            show (if 0 ≤ (t : Int) ∧ (t : Int) < D.length then some (max m (D.getD (t : Int).toNat 0)) else none) = some (max m dt)
            rw [hg, if_pos (by omega)]
          case measure => simp [intOf]; omega
        · have HN := Lib.hid hnode
          by_cases hz0 : z < 0
          · have e1 : decide (z < 0) = true := decide_eq_true hz0
            clear hnode hz0
            go_wp2_with fail
            go_ret
            refine ⟨?_, rfl⟩
            rw [farL, if_neg HNE.out, farK_none HM.out HZ.out HN.out]
            rfl
          · have e1 : decide (z < 0) = false := decide_eq_false hz0
            have e2 : decide ((D.length : Int) ≤ z) = true := decide_eq_true (by omega)
            clear hnode hz0
            go_wp2_with fail
            go_ret
            refine ⟨?_, rfl⟩
            rw [farL, if_neg HNE.out, farK_none HM.out HZ.out HN.out]
            rfl
      · have hkk : zs.length = k := by omega
        subst hkk
        go_wp2_with fail
        go_ret
        refine ⟨?_, rfl⟩
        have := HM.out
        rw [List.take_length] at this
        rw [farL, if_neg HNE.out, this]
        rfl
end
section
open Go.RowKit Go.Shelf Go.Maps

def RetTravel (w : World) (n : Nat) (fr : Int) (E : List EdgeT) (ts zs : List Int) (e : Ending) (w' : World) : Prop :=
  ∃ D, Fin35 n (fun s => (s : Int) ∈ [fr] ∧ s < n) E (timesL ts E.length) D ∧ e = .returned (.int .i64 (farL D zs)) ∧ Below w.heap.size w w'
end
section
open Go.RowKit Go.Shelf Go.Maps

theorem never_any (w : World) : Calls Tryd.prog 39 #[] w fun e w' => e = .returned (.int .i64 4611686018427387904) ∧ w = w' := by
  go_enter Tryd.func39, Tryd.ntmps39
  go_wp2_with fail
  go_ret
  exact ⟨rfl, rfl⟩
end
section
structure Low (n : Nat) (S : Nat → Prop) (E : List EdgeT) (W D : List Int) : Prop where
  len : D.length = n
  way : ∀ (v : Nat) (d : Int), D[v]? = some d → d ≠ 4611686018427387904 → Way S E W v d
  small : ∀ (v : Nat) (d : Int), D[v]? = some d → d ≠ 4611686018427387904 → 0 ≤ d ∧ d ≤ (cntF D : Int) * 1048576

/-- edge i relaxed, where that is something. -/
def relax1 (E : List EdgeT) (W D : List Int) (i : Nat) : List Int :=
  match E[i]?, W[i]? with
  | some e, some x => if x < 4611686018427387904 ∧ D.getD e.frm.toNat 0 < 4611686018427387904 ∧ D.getD e.frm.toNat 0 + x < D.getD e.dst.toNat 0 then D.set e.dst.toNat (D.getD e.frm.toNat 0 + x) else D
  | _, _ => D
def relaxK (E : List EdgeT) (W D : List Int) (k : Nat) : List Int := (List.range k).foldl (relax1 E W) D
def roundsK (E : List EdgeT) (W D : List Int) : Nat → List Int
  | 0 => D
  | r + 1 => relaxK E W (roundsK E W D r) E.length
theorem relaxK_succ (E : List EdgeT) (W D : List Int) (k : Nat) : relaxK E W D (k + 1) = relax1 E W (relaxK E W D k) k := by simp [relaxK, List.range_succ]

section
variable {n : Nat} {S : Nat → Prop} {E : List EdgeT} {W D : List Int}

theorem Low.set (h : Low n S E W D) (hn : n ≤ 256) {t : Nat} {d0 d : Int} (ht : D[t]? = some d0) (hlt : d < d0) (h0 : 0 ≤ d) (hb : d ≤ ((cntF D : Int) + 1) * 1048576) (hw : Way S E W t d) : Low n S E W (D.set t d) := by
  have htl := (List.getElem?_eq_some_iff.1 ht).1
  have hlen := h.len
  have hc := cntF_le D
  have hd : d ≠ 4611686018427387904 := by omega
  have hset := cntF_set (D := D) ht hd
  have hge : cntF D ≤ cntF (D.set t d) := by rw [hset]; split <;> omega
  have hself : (D.set t d)[t]? = some d := by rw [List.getElem?_set_self htl]
  have hne : ∀ v, t ≠ v → (D.set t d)[v]? = D[v]? := fun v c => List.getElem?_set_ne c
  have hdc : d ≤ (cntF (D.set t d) : Int) * 1048576 := by
    rw [hset]
    split
    · push_cast; exact hb
    · have := (h.small t d0 ht (by assumption)).2
      omega
  refine ⟨by rw [List.length_set]; exact hlen, fun v e he hne' => ?_, fun v e he hne' => ?_⟩
  · by_cases c : t = v
    · subst c
      rw [hself] at he
      cases he
      exact hw
    · rw [hne v c] at he
      exact h.way v e he hne'
  · by_cases c : t = v
    · subst c
      rw [hself] at he
      cases he
      exact ⟨h0, hdc⟩
    · rw [hne v c] at he
      have := h.small v e he hne'
      omega

theorem Low.le_inf (h : Low n S E W D) (hn : n ≤ 256) {v : Nat} {d : Int} (hd : D[v]? = some d) : d ≤ 4611686018427387904 ∧ 0 ≤ d ∧ (d ≠ 4611686018427387904 → d ≤ 268435456) := by
  have := cntF_le D
  have := h.len
  by_cases c : d = 4611686018427387904
  · omega
  · have := h.small v d hd c
    omega

theorem relax1_ok (hn : n ≤ 256) (hW : okW W) (hE : ∀ e ∈ E, 0 ≤ e.frm ∧ e.frm < n ∧ 0 ≤ e.dst ∧ e.dst < n) (h : Low n S E W D) (i : Nat) :
    Low n S E W (relax1 E W D i) ∧ Down D (relax1 E W D i) ∧ ∀ (u v : Nat) (x d : Int), usable E W i u v x → D[u]? = some d → d ≠ 4611686018427387904 → ∃ d', (relax1 E W D i)[v]? = some d' ∧ d' ≤ d + x := by
  unfold relax1
  cases hEi : E[i]? with
  | none => exact ⟨h, Down.refl _, fun u v x d ⟨e, h1, _⟩ => by rw [hEi] at h1; cases h1⟩
  | some e =>
    cases hWi : W[i]? with
    | none => exact ⟨h, Down.refl _, fun u v x d ⟨e, _, _, _, h1, _⟩ => by rw [hWi] at h1; cases h1⟩
    | some x =>
      obtain ⟨f0, f1, t0, t1⟩ := hE e (List.mem_of_getElem? hEi)
      have hlen := h.len
      obtain ⟨df, hdf⟩ : ∃ df, D[e.frm.toNat]? = some df := ⟨D[e.frm.toNat]'(by omega), by simp⟩
      obtain ⟨dt, hdt⟩ : ∃ dt, D[e.dst.toNat]? = some dt := ⟨D[e.dst.toNat]'(by omega), by simp⟩
      have gf : D.getD e.frm.toNat 0 = df := by rw [List.getD_eq_getElem?_getD, hdf]; rfl
      have gt : D.getD e.dst.toNat 0 = dt := by rw [List.getD_eq_getElem?_getD, hdt]; rfl
      simp only
      rw [gf, gt]
      have key : ∀ (u v : Nat) (x' d : Int), usable E W i u v x' → D[u]? = some d → u = e.frm.toNat ∧ v = e.dst.toNat ∧ x' = x ∧ d = df ∧ x ≠ 4611686018427387904 := fun u v x' d ⟨e', h1, h2, h3, h4, h5⟩ hd => by
        rw [hEi] at h1
        cases h1
        rw [hWi] at h4
        cases h4
        have hu : u = e.frm.toNat := by omega
        subst hu
        rw [hdf] at hd
        cases hd
        exact ⟨rfl, by omega, rfl, rfl, h5⟩
      have bf := h.le_inf hn hdf
      have bt := h.le_inf hn hdt
      have hc := cntF_le D
      split
      · rename_i hc'
        obtain ⟨c1, c2, c3⟩ := hc'
        have hx := hW i x hWi (by omega)
        have hsm := h.small _ _ hdf (by omega)
        have hw : Way S E W e.dst.toNat (df + x) := Way.step (h.way _ _ hdf (by omega)) ⟨e, hEi, by omega, by omega, hWi, by omega⟩
        refine ⟨h.set hn hdt c3 (by omega) (by omega) hw, down_set hdt c3, fun u v x' d hu hd hne => ?_⟩
        obtain ⟨rfl, rfl, rfl, rfl, _⟩ := key u v x' d hu hd
        exact ⟨_, List.getElem?_set_self (List.getElem?_eq_some_iff.1 hdt).1, Int.le_refl _⟩
      · rename_i hc'
        refine ⟨h, Down.refl _, fun u v x' d hu hd hne => ?_⟩
        obtain ⟨rfl, rfl, rfl, rfl, hx⟩ := key u v x' d hu hd
        have := hW i _ hWi hx
        refine ⟨dt, hdt, ?_⟩
        by_cases c : d + x' < dt
        · exact absurd ⟨by omega, by omega, c⟩ hc'
        · omega

theorem relaxK_ok (hn : n ≤ 256) (hW : okW W) (hE : ∀ e ∈ E, 0 ≤ e.frm ∧ e.frm < n ∧ 0 ≤ e.dst ∧ e.dst < n) (h : Low n S E W D) (k : Nat) :
    Low n S E W (relaxK E W D k) ∧ Down D (relaxK E W D k) ∧ ∀ (i u v : Nat) (x d : Int), i < k → usable E W i u v x → D[u]? = some d → d ≠ 4611686018427387904 → ∃ d', (relaxK E W D k)[v]? = some d' ∧ d' ≤ d + x := by
  induction k with
  | zero => exact ⟨h, Down.refl _, fun i u v x d hi => absurd hi (by omega)⟩
  | succ k ih =>
    obtain ⟨h1, h2, h3⟩ := ih
    obtain ⟨g1, g2, g3⟩ := relax1_ok hn hW hE h1 k
    rw [relaxK_succ]
    refine ⟨g1, h2.trans g2, fun i u v x d hi hu hd hne => ?_⟩
    by_cases c : i < k
    · obtain ⟨d', a1, a2⟩ := h3 i u v x d c hu hd hne
      obtain ⟨d2, b1, b2⟩ := g2 v d' a1
      exact ⟨d2, b1, by omega⟩
    · obtain rfl : i = k := by omega
      obtain ⟨d1, a1, a2⟩ := h2 u d hd
      have b1 := h1.le_inf hn a1
      have b2 := h.le_inf hn hd
      obtain ⟨d2, c1, c2⟩ := g3 u v x d1 hu a1 (by have := b2.2.2 hne; omega)
      exact ⟨d2, c1, by omega⟩

theorem roundsK_ok (hn : n ≤ 256) (hW : okW W) (hE : ∀ e ∈ E, 0 ≤ e.frm ∧ e.frm < n ∧ 0 ≤ e.dst ∧ e.dst < n) (h : Low n S E W D) (r : Nat) : Low n S E W (roundsK E W D r) ∧ Down D (roundsK E W D r) := by
  induction r with
  | zero => exact ⟨h, Down.refl _⟩
  | succ r ih =>
    obtain ⟨h1, h2, _⟩ := relaxK_ok hn hW hE ih.1 E.length
    exact ⟨h1, ih.2.trans h2⟩

/-- the nodes whose value is not yet the least one. -/
def bad (n : Nat) (D Ds : List Int) : List Nat := (List.range n).filter (fun v => decide (D[v]? ≠ Ds[v]?))
theorem mem_bad {Ds : List Int} {v : Nat} : v ∈ bad n D Ds ↔ v < n ∧ D[v]? ≠ Ds[v]? := by simp [bad]
theorem filter_le {p q : Nat → Bool} : ∀ (l : List Nat), (∀ u ∈ l, q u = true → p u = true) → (l.filter q).length ≤ (l.filter p).length
  | [], _ => by simp
  | a :: l, h => by
    have ih := filter_le (p := p) (q := q) l (fun u hu => h u (List.mem_cons_of_mem _ hu))
    have ha := h a (by simp)
    rw [List.filter_cons, List.filter_cons]
    cases hq : q a
    · cases hp : p a <;> simp <;> omega
    · rw [ha hq]
      simp
      omega
theorem filter_lt {p q : Nat → Bool} : ∀ (l : List Nat) {v : Nat}, (∀ u ∈ l, q u = true → p u = true) → v ∈ l → p v = true → q v = false → (l.filter q).length < (l.filter p).length
  | [], v, _, hv, _, _ => by simp at hv
  | a :: l, v, h, hv, hp, hq => by
    have h' : ∀ u ∈ l, q u = true → p u = true := fun u hu => h u (List.mem_cons_of_mem _ hu)
    rcases List.mem_cons.1 hv with rfl | hv
    · have := filter_le l h'
      rw [List.filter_cons, List.filter_cons, hp, hq]
      simp
      omega
    · have ih := filter_lt l h' hv hp hq
      have ha := h a (by simp)
      rw [List.filter_cons, List.filter_cons]
      cases hqa : q a
      · cases hpa : p a <;> simp <;> omega
      · rw [ha hqa]
        simp
        omega
theorem exists_min (f : Nat → Int) : ∀ l : List Nat, l ≠ [] → ∃ v ∈ l, ∀ u ∈ l, f v ≤ f u
  | [], h => absurd rfl h
  | [a], _ => ⟨a, by simp, by simp⟩
  | a :: b :: l, _ => by
    obtain ⟨v, h1, h2⟩ := exists_min f (b :: l) (by simp)
    by_cases c : f a ≤ f v
    · refine ⟨a, by simp, fun u hu => ?_⟩
      rcases List.mem_cons.1 hu with rfl | hu
      · exact Int.le_refl _
      · have := h2 u hu
        omega
    · refine ⟨v, List.mem_cons_of_mem _ h1, fun u hu => ?_⟩
      rcases List.mem_cons.1 hu with rfl | hu
      · omega
      · exact h2 u hu

theorem Low.ge (h : Low n S E W D) (hW : okW W) {Ds : List Int} (hf : Fin35 n S E W Ds) {v : Nat} {d e : Int} (hd : D[v]? = some d) (he : Ds[v]? = some e) : e ≤ d := by
  by_cases c : d = 4611686018427387904
  · by_cases c' : e = 4611686018427387904
    · omega
    · have := hf.small v e he c'
      omega
  · obtain ⟨d', h1, _, h3⟩ := hf.least hW (h.way v d hd c)
    rw [he] at h1
    cases h1
    exact h3

theorem bad_drops (hn : n ≤ 256) (hW : okW W) (hE : ∀ e ∈ E, 0 ≤ e.frm ∧ e.frm < n ∧ 0 ≤ e.dst ∧ e.dst < n) (h : Low n S E W D) {Ds : List Int} (hf : Fin35 n S E W Ds) (hs : ∀ s : Nat, S s → D[s]? = some 0) (hb : bad n D Ds ≠ []) :
    (bad n (relaxK E W D E.length) Ds).length < (bad n D Ds).length := by
  obtain ⟨h1, h2, h3⟩ := relaxK_ok hn hW hE h E.length
  have hlen := h.len
  have hfl := hf.len
  have hget : ∀ {L : List Int} {v : Nat}, L.length = n → v < n → ∃ d, L[v]? = some d := fun {L} {v} e hv => ⟨L[v]'(by omega), by simp⟩
  obtain ⟨v, hv, hmin⟩ := exists_min (fun v => Ds.getD v 0) _ hb
  obtain ⟨hvn, hvd⟩ := mem_bad.1 hv
  obtain ⟨d, hd⟩ := hget hlen hvn
  obtain ⟨e, he⟩ := hget hfl hvn
  have hge := h.ge hW hf hd he
  have hne : d ≠ e := fun c => hvd (by rw [hd, he, c])
  have hdi := h.le_inf hn hd
  have hei : e ≠ 4611686018427387904 := by omega
  have hsub : ∀ u, u ∈ bad n (relaxK E W D E.length) Ds → u ∈ bad n D Ds := fun u hu => by
    obtain ⟨hun, hud⟩ := mem_bad.1 hu
    refine mem_bad.2 ⟨hun, fun c => hud ?_⟩
    obtain ⟨d0, hd0⟩ := hget hlen hun
    obtain ⟨d1, hd1, hd2⟩ := h2 u d0 hd0
    rw [c] at hd0
    have := h1.ge hW hf hd1 hd0
    rw [hd1, hd0]
    congr 1
    omega
  have hvx : v ∉ bad n (relaxK E W D E.length) Ds := by
    intro hvb
    obtain ⟨_, hvd'⟩ := mem_bad.1 hvb
    have hw := hf.way v e he hei
    cases hw with
    | src hs' =>
      have := hs v hs'
      rw [hd] at this
      cases this
      have := hf.small v 0 he (by decide)
      have := hf.src v hs'
      omega
    | @step u _ i d1 x hw hu =>
      obtain ⟨d', g1, g2, g3⟩ := hf.least hW hw
      obtain ⟨e', k1, k2⟩ := hf.closed _ _ _ _ _ hu g1 g2
      rw [he] at k1
      cases k1
      have hx : 1 ≤ x := by
        obtain ⟨_, _, _, _, q1, q2⟩ := hu
        exact (hW _ _ q1 q2).1
      have hun : u < n := by have := (List.getElem?_eq_some_iff.1 g1).1; omega
      have hug : D[u]? = Ds[u]? := by
        by_cases c : D[u]? = Ds[u]?
        · exact c
        · have hm := hmin u (mem_bad.2 ⟨hun, c⟩)
          rw [List.getD_eq_getElem?_getD, List.getD_eq_getElem?_getD, he, g1] at hm
          simp only [Option.getD_some] at hm
          omega
      rw [g1] at hug
      obtain ⟨_, hEi, _⟩ := id hu
      obtain ⟨d2, r1, r2⟩ := h3 i u v x d' (List.getElem?_eq_some_iff.1 hEi).1 hu hug g2
      have := h1.ge hW hf r1 he
      exact hvd' (by rw [r1, he]; congr 1; omega)
  refine filter_lt (List.range n) (fun u hu hq => ?_) (List.mem_range.2 hvn) (by simpa using hvd) ?_
  · have := (mem_bad.1 (hsub u (mem_bad.2 ⟨List.mem_range.1 hu, by simpa using hq⟩))).2
    simpa using this
  · by_cases c : (relaxK E W D E.length)[v]? = Ds[v]?
    · simp [c]
    · exact absurd (mem_bad.2 ⟨hvn, c⟩) hvx

theorem rounds_bad (hn : n ≤ 256) (hW : okW W) (hE : ∀ e ∈ E, 0 ≤ e.frm ∧ e.frm < n ∧ 0 ≤ e.dst ∧ e.dst < n) (h : Low n S E W D) {Ds : List Int} (hf : Fin35 n S E W Ds) (hs : ∀ s : Nat, S s → D[s]? = some 0) (r : Nat) :
    (bad n (roundsK E W D r) Ds).length + min r n ≤ n := by
  induction r with
  | zero =>
    have : (bad n D Ds).length ≤ (List.range n).length := List.length_filter_le _ _
    simpa [roundsK] using this
  | succ r ih =>
    obtain ⟨g1, g2⟩ := roundsK_ok hn hW hE h r
    have hs' : ∀ s : Nat, S s → (roundsK E W D r)[s]? = some 0 := fun s hS => by
      obtain ⟨d', q1, q2⟩ := g2 s 0 (hs s hS)
      have := (g1.le_inf hn q1).2.1
      rw [q1]
      congr 1
      omega
    by_cases c : bad n (roundsK E W D r) Ds = []
    · have hsub : bad n (roundsK E W D (r + 1)) Ds = [] := by
        obtain ⟨k1, k2, _⟩ := relaxK_ok hn hW hE g1 E.length
        refine List.eq_nil_iff_forall_not_mem.2 fun u hu => ?_
        obtain ⟨hun, hud⟩ := mem_bad.1 hu
        have hl := g1.len
        obtain ⟨d0, hd0⟩ : ∃ d, (roundsK E W D r)[u]? = some d := ⟨(roundsK E W D r)[u]'(by omega), by simp⟩
        have hc : (roundsK E W D r)[u]? = Ds[u]? := by
          by_cases q : (roundsK E W D r)[u]? = Ds[u]?
          · exact q
          · have := mem_bad.2 ⟨hun, q⟩
            rw [c] at this
            exact absurd this (by simp)
        obtain ⟨d1, hd1, hd2⟩ := k2 u d0 hd0
        rw [hc] at hd0
        have := k1.ge hW hf hd1 hd0
        apply hud
        show (relaxK E W (roundsK E W D r) E.length)[u]? = _
        rw [hd1, hd0]
        congr 1
        omega
      rw [hsub]
      simp only [List.length_nil]
      omega
    · have := bad_drops hn hW hE g1 hf hs' c
      show (bad n (relaxK E W (roundsK E W D r) E.length) Ds).length + _ ≤ n
      omega

theorem rounds_done (hn : n ≤ 256) (hW : okW W) (hE : ∀ e ∈ E, 0 ≤ e.frm ∧ e.frm < n ∧ 0 ≤ e.dst ∧ e.dst < n) (h : Low n S E W D) {Ds : List Int} (hf : Fin35 n S E W Ds) (hs : ∀ s : Nat, S s → D[s]? = some 0) : roundsK E W D n = Ds := by
  have hb := rounds_bad hn hW hE h hf hs n
  have h0 : bad n (roundsK E W D n) Ds = [] := List.length_eq_zero_iff.1 (by omega)
  refine List.ext_getElem? fun v => ?_
  by_cases hv : v < n
  · by_cases q : (roundsK E W D n)[v]? = Ds[v]?
    · exact q
    · have := mem_bad.2 ⟨hv, q⟩
      rw [h0] at this
      exact absurd this (by simp)
  · rw [List.getElem?_eq_none (by rw [(roundsK_ok hn hW hE h n).1.len]; omega), List.getElem?_eq_none (by rw [hf.len]; omega)]
end
end
section
def seed1 (n : Nat) (D : List Int) (z : Int) : List Int := if 0 ≤ z ∧ z < n then D.set z.toNat 0 else D
def seedsK (n : Nat) (ss : List Int) : List Int := ss.foldl (seed1 n) (List.replicate n 4611686018427387904)
theorem seedsK_snoc (n : Nat) (ss : List Int) (z : Int) : seedsK n (ss ++ [z]) = seed1 n (seedsK n ss) z := by simp [seedsK]

def Seeded (n : Nat) (T : Nat → Prop) (D : List Int) : Prop := D.length = n ∧ (∀ s, T s → D[s]? = some 0) ∧ ∀ (v : Nat) (d : Int), D[v]? = some d → d = 4611686018427387904 ∨ (d = 0 ∧ T v)
theorem seeded_one {n : Nat} {T : Nat → Prop} {D : List Int} (h : Seeded n T D) (z : Int) : Seeded n (fun s => T s ∨ ((s : Int) = z ∧ s < n)) (seed1 n D z) := by
  obtain ⟨h1, h2, h3⟩ := h
  unfold seed1
  split
  · rename_i hz
    obtain ⟨t, rfl⟩ : ∃ t : Nat, z = (t : Int) := ⟨z.toNat, by omega⟩
    rw [Int.toNat_natCast]
    refine ⟨by rw [List.length_set]; exact h1, fun s hs => ?_, fun v d hd => ?_⟩
    · by_cases c : t = s
      · subst c
        rw [List.getElem?_set_self (by omega)]
      · rw [List.getElem?_set_ne c]
        rcases hs with hs | ⟨hs, _⟩
        · exact h2 s hs
        · omega
    · by_cases c : t = v
      · subst c
        rw [List.getElem?_set_self (by omega)] at hd
        cases hd
        exact .inr ⟨rfl, .inr ⟨rfl, by omega⟩⟩
      · rw [List.getElem?_set_ne c] at hd
        rcases h3 v d hd with k | ⟨k1, k2⟩
        · exact .inl k
        · exact .inr ⟨k1, .inl k2⟩
  · rename_i hz
    refine ⟨h1, fun s hs => ?_, fun v d hd => ?_⟩
    · rcases hs with hs | ⟨hs, hn⟩
      · exact h2 s hs
      · exact absurd (by omega) hz
    · rcases h3 v d hd with k | ⟨k1, k2⟩
      · exact .inl k
      · exact .inr ⟨k1, .inl k2⟩
theorem seeded_all {n : Nat} : ∀ (ss : List Int) {T : Nat → Prop} {D : List Int}, Seeded n T D → Seeded n (fun s => T s ∨ ((s : Int) ∈ ss ∧ s < n)) (ss.foldl (seed1 n) D)
  | [], T, D, h => ⟨h.1, fun s hs => h.2.1 s (by simpa using hs), fun v d hd => by
      rcases h.2.2 v d hd with k | ⟨k1, k2⟩
      · exact .inl k
      · exact .inr ⟨k1, .inl k2⟩⟩
  | z :: ss, T, D, h => by
    have := seeded_all ss (seeded_one h z)
    refine ⟨this.1, fun s hs => this.2.1 s ?_, fun v d hd => ?_⟩
    · rcases hs with hs | ⟨hs, hn⟩
      · exact .inl (.inl hs)
      · rcases List.mem_cons.1 hs with hs | hs
        · exact .inl (.inr ⟨hs, hn⟩)
        · exact .inr ⟨hs, hn⟩
    · rcases this.2.2 v d hd with k | ⟨k1, (k2 | ⟨k2, k3⟩) | ⟨k2, k3⟩⟩
      · exact .inl k
      · exact .inr ⟨k1, .inl k2⟩
      · exact .inr ⟨k1, .inr ⟨by rw [k2]; simp, k3⟩⟩
      · exact .inr ⟨k1, .inr ⟨List.mem_cons_of_mem _ k2, k3⟩⟩
theorem seeded_start (n : Nat) (ss : List Int) : Seeded n (fun s => (s : Int) ∈ ss ∧ s < n) (seedsK n ss) := by
  have h0 : Seeded n (fun _ => False) (List.replicate n 4611686018427387904) := ⟨by simp, fun s h => h.elim, fun v d hd => by
    rw [List.getElem?_replicate] at hd
    split at hd <;> simp_all⟩
  have := seeded_all ss h0
  refine ⟨this.1, fun s hs => this.2.1 s (.inr hs), fun v d hd => ?_⟩
  rcases this.2.2 v d hd with k | ⟨k1, k2 | k2⟩
  · exact .inl k
  · exact k2.elim
  · exact .inr ⟨k1, k2⟩
theorem seeds_low (n : Nat) (ss : List Int) (E : List EdgeT) (W : List Int) : Low n (fun s => (s : Int) ∈ ss ∧ s < n) E W (seedsK n ss) := by
  obtain ⟨h1, h2, h3⟩ := seeded_start n ss
  refine ⟨h1, fun v d hd hne => ?_, fun v d hd hne => ?_⟩
  · rcases h3 v d hd with k | ⟨rfl, k2⟩
    · exact absurd k hne
    · exact Way.src k2
  · rcases h3 v d hd with k | ⟨rfl, k2⟩
    · exact absurd k hne
    · omega

theorem seeds_done {n : Nat} {ss : List Int} {E : List EdgeT} {W Ds : List Int} (hn : n ≤ 256) (hW : okW W) (hE : ∀ e ∈ E, 0 ≤ e.frm ∧ e.frm < n ∧ 0 ≤ e.dst ∧ e.dst < n) (hf : Fin35 n (fun s => (s : Int) ∈ ss ∧ s < n) E W Ds) : roundsK E W (seedsK n ss) n = Ds :=
  rounds_done hn hW hE (seeds_low n ss E W) hf (seeded_start n ss).2.1
end
section
open Go.RowKit Go.Shelf Go.Maps

def netCell (n : Int) (A : Option Addr) (m c : Nat) : Obj := .cells #[.int .i64 n, .slice A m c] 24
theorem net_cells {w wr : World} {n : Int} {A : Option Addr} {m c : Nat} (hb : Below (w.heap.size + 1) (w.alloc (netCell n A m c)) wr) :
    wr.cell? ⟨w.heap.size, 0, none⟩ = some (.int .i64 n) ∧ wr.cell? ⟨w.heap.size, 1, none⟩ = some (.slice A m c) :=
  ⟨(hb.cell (p := ⟨w.heap.size, 0, none⟩) (by simp)).trans (by rw [netCell, World.cell?_alloc_at (hn := rfl)]; rfl), (hb.cell (p := ⟨w.heap.size, 1, none⟩) (by simp)).trans (by rw [netCell, World.cell?_alloc_at (hn := rfl)]; rfl)⟩

/-- the memory of From: the boxed graph, and the distances D at block g. -/
structure FromAt (w : World) (n : Nat) (A : Option Addr) (m c g : Nat) (D : List Int) (wr : World) : Prop where
  own : OwnI wr (w.heap.size + 1) 2 (.slice (some ⟨g, 0, none⟩) n n) D
  below : Below (w.heap.size + 1) (w.alloc (netCell n A m c)) wr
section
variable {w wr : World} {n : Nat} {A : Option Addr} {m c g : Nat} {D : List Int}
theorem FromAt.drewN (h : FromAt w n A m c g D wr) (k : Nat) : FromAt w n A m c g D (wr.drewN k) := ⟨h.own.drewN k, ⟨h.below.os, h.below.tape, h.below.output, h.below.size, h.below.block⟩⟩
theorem FromAt.ge (h : FromAt w n A m c g D wr) : w.heap.size + 1 ≤ g := OwnV.ge_base h.own g rfl
theorem FromAt.stored (h : FromAt w n A m c g D wr) (k : Nat) (z : Int) : FromAt w n A m c g (D.set k z) (wr.setCell ⟨g, k, none⟩ (.int .i64 z)) := ⟨h.own.stored k z, h.below.setCell (p := ⟨g, k, none⟩) h.ge _⟩
theorem FromAt.alloc (h : FromAt w n A m c g D wr) (o : Obj) : FromAt w n A m c g D (wr.alloc o) := ⟨h.own.alloc o, h.below.alloc (by have := h.below.size; simpa using this) o⟩
theorem FromAt.all (h : FromAt w n A m c g D wr) : Below w.heap.size w wr := ((Below.refl w.heap.size w).alloc (Nat.le_refl _) _).trans (h.below.mono (by omega))
end

def RetFrom (w : World) (n : Nat) (Ds : List Int) (e : Ending) (w' : World) : Prop := ∃ g, e = .returned (.slice (some ⟨g, 0, none⟩) n n) ∧ OwnI w' w.heap.size 2 (.slice (some ⟨g, 0, none⟩) n n) Ds ∧ Below w.heap.size w w'

theorem relax1_at {E : List EdgeT} {W D : List Int} {i : Nat} {e : EdgeT} {x df dt : Int} {f t : Nat} (he : E[i]? = some e) (hw : W[i]? = some x) (hf : e.frm = (f : Int)) (ht : e.dst = (t : Int)) (h1 : D[f]? = some df) (h2 : D[t]? = some dt) :
    relax1 E W D i = if x < 4611686018427387904 ∧ df < 4611686018427387904 ∧ df + x < dt then D.set t (df + x) else D := by
  unfold relax1
  rw [he, hw]
  simp only
  rw [hf, ht, Int.toNat_natCast, Int.toNat_natCast, List.getD_eq_getElem?_getD, List.getD_eq_getElem?_getD, h1, h2]
  rfl

theorem timesL_at (ts : List Int) {m i : Nat} (h : i < m) : (timesL ts m)[i]? = some (wAt ts i) := by
  unfold timesL
  rw [List.getElem?_map, List.getElem?_range h]
  rfl
end
section
open Go.RowKit Go.Shelf Go.Maps

theorem below_dr {B : Nat} {a w : World} (n : Nat) (h : Below B a w) : Below B a (w.drewN n) := ⟨h.os, h.tape, h.output, h.size, h.block⟩

theorem Way.source {S : Nat → Prop} {E : List EdgeT} {W : List Int} {v : Nat} {d : Int} (h : Way S E W v d) : ∃ s, S s := by
  induction h with
  | src hs => exact ⟨_, hs⟩
  | step _ _ ih => exact ih
theorem Fin35.none {n : Nat} {S : Nat → Prop} {E : List EdgeT} {W D : List Int} (h : Fin35 n S E W D) (hS : ∀ s, ¬ S s) (v : Nat) (d : Int) (hd : D[v]? = some d) : d = 4611686018427387904 := by
  by_cases c : d = 4611686018427387904
  · exact c
  · obtain ⟨s, hs⟩ := (h.way v d hd c).source
    exact absurd hs (hS s)
theorem farStep_inf {D : List Int} (h : ∀ (v : Nat) (d : Int), D[v]? = some d → d = 4611686018427387904) {m : Int} (hm : m ≤ 4611686018427387904) (z : Int) : farStep D (some m) z = Option.none ∨ farStep D (some m) z = some 4611686018427387904 := by
  unfold farStep
  simp only [Option.bind_some]
  split
  · rename_i hz
    obtain ⟨d, hd⟩ : ∃ d, D[z.toNat]? = some d := ⟨D[z.toNat]'(by omega), by simp⟩
    right
    rw [List.getD_eq_getElem?_getD, hd, h _ _ hd]
    show some (max m 4611686018427387904) = _
    congr 1
    omega
  · exact .inl rfl
theorem far_inf {D : List Int} (h : ∀ (v : Nat) (d : Int), D[v]? = some d → d = 4611686018427387904) : ∀ (zs : List Int) {m : Int}, m ≤ 4611686018427387904 → zs ≠ [] → zs.foldl (farStep D) (some m) = Option.none ∨ zs.foldl (farStep D) (some m) = some 4611686018427387904
  | [], _, _, hne => absurd rfl hne
  | [z], m, hm, _ => farStep_inf h hm z
  | z :: y :: zs, m, hm, _ => by
    rw [List.foldl_cons]
    rcases farStep_inf h hm z with e | e
    · rw [e, far_none]
      exact .inl rfl
    · rw [e]
      exact far_inf h (y :: zs) (by omega) (by simp)
theorem farL_inf {D zs : List Int} (h : ∀ (v : Nat) (d : Int), D[v]? = some d → d = 4611686018427387904) : farL D zs = 4611686018427387904 := by
  unfold farL
  split
  · rfl
  · rename_i hne
    unfold farK
    rcases far_inf h zs (m := 0) (by omega) hne with e | e <;> rw [e] <;> rfl
theorem farK_ge {D zs : List Int} {m : Int} (h : farK D zs = some m) : 0 ≤ m := by
  unfold farK at h
  have key : ∀ (zs : List Int) (a m : Int), 0 ≤ a → zs.foldl (farStep D) (some a) = some m → 0 ≤ m := by
    intro zs
    induction zs with
    | nil => intro a m ha h; cases h; exact ha
    | cons z zs ih =>
      intro a m ha h
      rw [List.foldl_cons] at h
      unfold farStep at h
      simp only [Option.bind_some] at h
      split at h
      · exact ih _ _ (by omega) h
      · have := far_none D zs
        unfold farStep at this
        rw [this] at h
        cases h
  exact key zs 0 m (by omega) h
end
end Go.Proofs.YtimijjhdgihobaaDoor
