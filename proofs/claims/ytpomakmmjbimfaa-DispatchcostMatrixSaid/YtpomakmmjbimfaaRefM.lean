/-
  samaritanref35.Matrix and SameRows.
-/
import Derived.Test.YtpomakmmjbimfaaCost
namespace Go.Proofs.Ytpomakmmjbimfaa
open Go.RowKit Go.Shelf Go.Maps

/-- the matrix of the reference: rows that read as the costs. -/
def RetMat (w : World) (n : Nat) (E : List EdgeT) (ts : List Int) (ss : List SlotT) (us : List UnitT) (e : Ending) (w' : World) : Prop :=
  ∃ (A : Option Addr) (c : Nat) (vs : List Value), e = .returned (.slice A ss.length c) ∧ Sl w' w'.heap.size A vs ∧ vs.length = ss.length ∧ (∀ (i : Nat) (s : SlotT) (v : Value), ss[i]? = some s → vs[i]? = some v → ∃ B d row, v = .slice B us.length d ∧ Sl w' w'.heap.size B (row.map (Value.int .i64)) ∧ RowP n E ts us s row us.length) ∧ Below w.heap.size w w'

/-- the rows so far; v owns them, each owns its cells. -/
structure RM (w : World) (n : Nat) (E : List EdgeT) (ts : List Int) (ss : List SlotT) (us : List UnitT) (k : Nat) (v : Value) (vs : List Value) (wr : World) : Prop where
  outer : OwnV (fun v : Value => v) wr (w.heap.size + 1) 25 v vs
  len : vs.length = k
  rows : ∀ (i : Nat) (s : SlotT) (u : Value), ss[i]? = some s → vs[i]? = some u → ∃ row, OwnI wr (w.heap.size + 1) 2 u row ∧ RowP n E ts us s row us.length
section
variable {w wr w' : World} {n : Nat} {E : List EdgeT} {ts : List Int} {ss : List SlotT} {us : List UnitT} {k : Nat} {v : Value} {vs : List Value}
theorem RM.kept_new (h : RM w n E ts ss us k v vs wr) (hb : Below wr.heap.size wr w') : RM w n E ts ss us k v vs w' :=
  ⟨OwnV.kept_new h.outer hb, h.len, fun i s u hs hu => by
    obtain ⟨row, h1, h2⟩ := h.rows i s u hs hu
    exact ⟨row, OwnV.kept_new h1 hb, h2⟩⟩
/-- a row more. -/
theorem RM.append (h : RM w n E ts ss us k v vs wr) {u v' : Value} {row : List Int} {s : SlotT} (hs : ss[k]? = some s) (hu : OwnI wr (w.heap.size + 1) 2 u row) (hr : RowP n E ts us s row us.length) (ho : OwnV (fun v : Value => v) w' (w.heap.size + 1) 25 v' (vs ++ [u])) (hg : wr.grownBy w' v.ownBlock) : RM w n E ts ss us (k + 1) v' (vs ++ [u]) w' := by
  have key : ∀ (q : Value) (zs : List Int), OwnI wr (w.heap.size + 1) 2 q zs → OwnI w' (w.heap.size + 1) 2 q zs := fun q zs hq => by
    refine World.ownsRow.kept hq hg ?_
    cases hb : q.ownBlock with
    | none => exact .inl rfl
    | some b =>
      refine .inr fun e => ?_
      exact own_other h.outer hq (by decide) hb e.symm
  refine ⟨ho, by rw [List.length_append, h.len]; rfl, fun i s' q hs' hq => ?_⟩
  have hl := (List.getElem?_eq_some_iff.1 hq).1
  rw [List.length_append, List.length_singleton, h.len] at hl
  by_cases c : i < k
  · rw [List.getElem?_append_left (by rw [h.len]; exact c)] at hq
    obtain ⟨row', h1, h2⟩ := h.rows i s' q hs' hq
    exact ⟨row', key _ _ h1, h2⟩
  · obtain rfl : i = k := by omega
    rw [List.getElem?_append_right (by rw [h.len]; exact Nat.le_refl _), h.len, Nat.sub_self] at hq
    cases hq
    rw [hs] at hs'
    cases hs'
    exact ⟨row, key _ _ hu, hr⟩
end

set_option maxRecDepth 100000 in
set_option maxHeartbeats 4000000 in
theorem matrix_any (n : Nat) (E : List EdgeT) (A A1 A2 A3 : Option Addr) (c c1 c2 c3 : Nat) (ts : List Int) (ss : List SlotT) (us : List UnitT) (w : World) (hn : n ≤ 256) (hE : E.length ≤ 16384) (he : EdgesAt w w.heap.size A E) (hok : ∀ e ∈ E, 0 ≤ e.frm ∧ e.frm < n ∧ 0 ≤ e.to ∧ e.to < n) (hs : Sl w w.heap.size A1 (ts.map (Value.int .i64)))
    (hss : SlotsAt w w.heap.size A2 ss) (hsn : SNodes w w.heap.size ss) (hnl : ∀ s ∈ ss, s.nodes.length ≤ 16384) (hl : ss.length ≤ 64) (hu : UnitsAt w w.heap.size A3 us) (hul : us.length ≤ 64)
    (hex : ∀ s ∈ ss, ∀ u ∈ us, satB u.kind s.kind = true → ∃ D, Fin35 n (fun s => (s : Int) ∈ [u.node] ∧ s < n) E (timesL ts E.length) D) :
    Calls Try.prog 18 #[.agg #[.int .i64 n, .slice A E.length c], .slice A1 ts.length c1, .slice A2 ss.length c2, .slice A3 us.length c3] w (RetMat w n E ts ss us) := by
  have HE := Lib.hid he
  have HOK := Lib.hid hok
  have HS := Lib.hid hs
  have HSS := Lib.hid hss
  have HSN := Lib.hid hsn
  have HNL := Lib.hid hnl
  have HU := Lib.hid hu
  have HEX := Lib.hid hex
  have HB0 : Hid (∀ W, Below (w.heap.size + 1) (w.alloc (netCell n A E.length c)) W → Below w.heap.size w W) := Lib.hid (fun W h => ((Below.refl w.heap.size w).alloc (Nat.le_refl _) _).trans (h.mono (by omega)))
  clear he hok hs hss hsn hnl hu hex
  go_enter Try.func18, Try.ntmps18
  go_wp2_with fail
  go_loopw [9, 10] (fun v iv wr => ∃ (k : Nat) (vs : List Value), k ≤ ss.length ∧ iv = .int .i64 k ∧ RM w n E ts ss us k v vs wr ∧ Below (w.heap.size + 1) (w.alloc (netCell n A E.length c)) wr) (fun _ i _ => ss.length - (intOf i).toNat)
  case atStart => exact ⟨0, [], Nat.zero_le _, rfl, ⟨OwnV.nil _ _ _, rfl, fun i s u _ h => by simp at h⟩, Below.refl _ _⟩
  case round =>
    obtain ⟨k, vs, hk, rfl, hrm, hb⟩ := hrel
    have HRM := Lib.hid hrm
    have HB := Lib.hid hb
    clear hrm hb
    by_cases hlt : k < ss.length
    · obtain ⟨s, hsk⟩ : ∃ s, ss[k]? = some s := ⟨ss[k], by simp⟩
      have HSK := Lib.hid hsk
      have hsm : s ∈ ss := List.mem_of_getElem? hsk
      have HNS : Hid (Sl w w.heap.size s.nA (s.nodes.map (Value.int .i64))) := Lib.hid (HSN.out s hsm)
      have hsnl : s.nodes.length ≤ 16384 := HNL.out s hsm
      have HEXS : Hid (∀ u ∈ us, satB u.kind s.kind = true → ∃ D, Fin35 n (fun s => (s : Int) ∈ [u.node] ∧ s < n) E (timesL ts E.length) D) := Lib.hid (HEX.out s hsm)
      have hkj : (k : Int) < (ss.length : Int) := by omega
      clear hsk hsm
      go_wp2_with fail
      obtain ⟨wi, rfl⟩ : ∃ wi : World, wi = wr := ⟨_, rfl⟩
      go_loopw [11, 12] (fun v jv wr => ∃ (j : Nat) (row : List Int), j ≤ us.length ∧ jv = .int .i64 j ∧ row.length = j ∧ (∀ (i : Nat) (u : UnitT) (c : Int), us[i]? = some u → row[i]? = some c → CostC n E ts s u c) ∧ OwnI wr wi.heap.size 2 v row ∧ Below wi.heap.size wi wr) (fun _ i _ => us.length - (intOf i).toNat)
      case atStart => exact ⟨0, [], Nat.zero_le _, rfl, rfl, fun i u c _ h => by simp at h, OwnV.nil _ _ _, Below.refl _ _⟩
      case round =>
        obtain ⟨j, row, hj, rfl, hrl, hcost, hown, hb⟩ := hrel
        have HRL := Lib.hid hrl
        have HCOST := Lib.hid hcost
        have HBI := Lib.hid hb
        have hbz := hb.size
        have HBN : Hid (Below (w.heap.size + 1) (w.alloc (netCell n A E.length c)) wr) := Lib.hid (HB.out.trans (hb.mono (by have := HB.out.size; simpa using this)))
        have HBW : Hid (Below w.heap.size w wr) := Lib.hid (HB0.out wr HBN.out)
        clear hrl hcost hb
        by_cases hjl : j < us.length
        · obtain ⟨u, hu⟩ : ∃ u, us[j]? = some u := ⟨us[j], by simp⟩
          obtain ⟨b3, o3, rfl, hb3, _⟩ := unit_at HU.out hu
          obtain ⟨bs, os, rfl, hbs, _⟩ := slot_at HSS.out HSK.out
          have HLD0 : Hid (∀ W, Below wr.heap.size wr W → W.cell? ⟨b3, o3 + j * 10 + 1, none⟩ = some (.int .i64 u.kind) ∧ W.cell? ⟨b3, o3 + j * 10 + 4, none⟩ = some (.int .i64 u.node) ∧ W.cell? ⟨bs, os + k * 5 + 3, none⟩ = some (.int .i64 s.kind) ∧ W.cell? ⟨bs, os + k * 5 + 4, none⟩ = some (.slice s.nA s.nodes.length s.nc)) := Lib.hid (fun W hW => by
            have hbw := HBW.out.trans (hW.mono HBW.out.size)
            obtain ⟨_, _, e1, _, _, k1, _, _, k4, _⟩ := unit_at (HU.out.below hbw) hu
            cases e1
            obtain ⟨_, _, e2, _, _, _, _, m3, m4⟩ := slot_at (HSS.out.below hbw) HSK.out
            cases e2
            exact ⟨k1, k4, m3, m4⟩)
          have HLD : Hid (∀ W, Below wr.heap.size wr W → W.cell? ⟨w.heap.size, 0, none⟩ = some (.int .i64 n) ∧ W.cell? ⟨w.heap.size, 1, none⟩ = some (.slice A E.length c) ∧ W.cell? ⟨b3, o3 + j * 10 + 4, none⟩ = some (.int .i64 u.node) ∧ W.cell? ⟨bs, os + k * 5 + 4, none⟩ = some (.slice s.nA s.nodes.length s.nc)) := Lib.hid (fun W hW => by
            obtain ⟨h1, h2⟩ := net_cells (HBN.out.trans (hW.mono (by have := HBN.out.size; simpa using this)))
            obtain ⟨_, h4, _, h6⟩ := HLD0.out W hW
            exact ⟨h1, h2, h4, h6⟩)
          have hum : u ∈ us := List.mem_of_getElem? hu
          have HUM := Lib.hid hum
          have HNEXT : Hid (∀ c, CostC n E ts s u c → ∀ (i : Nat) (u' : UnitT) (c' : Int), us[i]? = some u' → (row ++ [c])[i]? = some c' → CostC n E ts s u' c') := Lib.hid (fun c hc i u' c' hu' hc' => by
            by_cases hi : i < j
            · rw [List.getElem?_append_left (by rw [HRL.out]; exact hi)] at hc'
              exact HCOST.out i u' c' hu' hc'
            · have hl := (List.getElem?_eq_some_iff.1 hc').1
              rw [List.length_append, List.length_singleton, HRL.out] at hl
              obtain rfl : i = j := by omega
              rw [List.getElem?_append_right (by rw [HRL.out]; exact Nat.le_refl _), HRL.out, Nat.sub_self] at hc'
              cases hc'
              rw [hu] at hu'
              cases hu'
              exact hc)
          have hjj : (j : Int) < (us.length : Int) := by omega
          have hrl64 : row.length ≤ 64 := by rw [HRL.out]; omega
          obtain ⟨a1, a2, a3, a4⟩ := HLD0.out wr (Below.refl _ _)
          clear hu hum
          cases hsat : satB u.kind s.kind
          · have HC : Hid (CostC n E ts s u 4611686018427387904) := Lib.hid ⟨(fun h => by rw [hsat] at h; cases h), fun _ => rfl⟩
            have HSAT := Lib.hid hsat
            clear hsat
            go_wp2_with fail
            go_quiet ((go_at_call 32; refine Calls.quiet_of_same ((does_any _ _ _).mono fun _ _ q => ⟨q.1, q.2.symm⟩)))
            rw [HSAT.out]
            have hwq : wi.heap.size ≤ (wr.drewN nq).heap.size := hbz
            go_wp2_with (at_builtin; refine wpList_append_int _ rfl (.tmp 50) (.tmp 52) 25 rfl wi.heap.size 2 Try.underlying25 i64_info _ _ (wr.drewN nq) 4611686018427387904 rfl rfl (hown.drewN nq) rfl (by omega) hwq ?_; intro v4 w4 hown4 hg4)
            go_roundw
            case rel => exact ⟨j + 1, row ++ [4611686018427387904], by omega, by go_num, by rw [List.length_append, HRL.out]; rfl, HNEXT.out _ HC.out, hown4, (below_drewN2 nq HBI.out).grown hg4 hwq (fun q hq => OwnV.ge_base hown q hq)⟩
            case measure => simp [intOf]; omega
          · obtain ⟨D, hfin⟩ := HEXS.out u HUM.out hsat
            have HC : Hid (CostC n E ts s u (farL D s.nodes)) := Lib.hid ⟨fun _ => ⟨D, hfin, rfl⟩, (fun h => by rw [hsat] at h; cases h)⟩
            have HSAT := Lib.hid hsat
            have HFIN := Lib.hid hfin
            clear hsat hfin
            go_wp2_with fail
            go_quiet ((go_at_call 32; refine Calls.quiet_of_same ((does_any _ _ _).mono fun _ _ q => ⟨q.1, q.2.symm⟩)))
            rw [HSAT.out]
            have hbq : Below wr.heap.size wr (wr.drewN nq) := ⟨rfl, rfl, rfl, Nat.le_refl _, fun _ _ => rfl⟩
            have HLDQ : Hid (∀ W, Below (wr.drewN nq).heap.size (wr.drewN nq) W → W.cell? ⟨w.heap.size, 0, none⟩ = some (.int .i64 n) ∧ W.cell? ⟨w.heap.size, 1, none⟩ = some (.slice A E.length c) ∧ W.cell? ⟨b3, o3 + j * 10 + 4, none⟩ = some (.int .i64 u.node) ∧ W.cell? ⟨bs, os + k * 5 + 4, none⟩ = some (.slice s.nA s.nodes.length s.nc)) := Lib.hid (fun W hW => HLD.out W (hbq.trans hW))
            have HBWQ : Hid (Below w.heap.size w (wr.drewN nq)) := Lib.hid (below_drewN2 nq HBW.out)
            have HBIQ : Hid (Below wi.heap.size wi (wr.drewN nq)) := Lib.hid (below_drewN2 nq HBI.out)
            have hownq : OwnI (wr.drewN nq) wi.heap.size 2 u11 row := hown.drewN nq
            clear hbq HLD HBW HBI HBN hown a1 a2 a3 a4 HLD0
            have hbzq : wi.heap.size ≤ (wr.drewN nq).heap.size := hbz
            clear hbz
            generalize hWR : wr.drewN nq = wr' at *
            clear hWR
            obtain ⟨wr, rfl⟩ : ∃ wr : World, wr = wr' := ⟨_, rfl⟩
            have HLD := HLDQ
            have HTIME := Lib.hid (refTime35_any n E A A1 s.nA c c1 s.nc ts s.nodes D u.node wr.drew hn hE ((HE.out.below HBWQ.out).more HBWQ.out.size) HOK.out (((HS.out.below HBWQ.out).more HBWQ.out.size).drew) (((HNS.out.below HBWQ.out).more HBWQ.out.size).drew) hsnl HFIN.out)
            go_wp2_with fail
            refine wp_region_held_drew (S := fun W => Below wr.heap.size wr W) (by kernel_rfl) ((Below.refl _ _).drew) (fun hHeld => ?_)
            refine wpAnyH_take (i := 0) (v := .agg #[.int .i64 n, .slice A E.length c]) rfl (by kernel_rfl) (by kernel_rfl) (by kernel_rfl) (fun _ _ _ h => h) (Or.inl ⟨by rfl, ?_⟩) (by assumption) ?_
            · intro w hSw
              obtain ⟨n0, n1, u4, s4⟩ := HLD.out w hSw
              go_simp
            show wpAnyH _ _ _ _ _ _ _ (Act.put _ (some 37) _) _
            simp only [Act.put, List.setIfInBounds_toArray, List.set_cons_zero, List.set_cons_succ]
            refine wpAnyH_take (i := 1) (v := .slice A1 ts.length c1) rfl (by kernel_rfl) (by kernel_rfl) (by kernel_rfl) (fun _ _ _ h => h) (Or.inl ⟨by rfl, ?_⟩) (by assumption) ?_
            · intro w hSw
              go_simp
            show wpAnyH _ _ _ _ _ _ _ (Act.put _ (some 38) _) _
            simp only [Act.put, List.setIfInBounds_toArray, List.set_cons_zero, List.set_cons_succ]
            refine wpAnyH_take (i := 2) (v := .slice (some ⟨b3, o3, none⟩) us.length c3) rfl (by kernel_rfl) (by kernel_rfl) (by kernel_rfl) (fun _ _ _ h => h) (Or.inl ⟨by rfl, ?_⟩) (by assumption) ?_
            · intro w hSw
              go_simp
            show wpAnyH _ _ _ _ _ _ _ (Act.put _ (some 39) _) _
            simp only [Act.put, List.setIfInBounds_toArray, List.set_cons_zero, List.set_cons_succ]
            refine wpAnyH_take (i := 3) (v := .int .i64 (j : Int)) rfl (by kernel_rfl) (by kernel_rfl) (by kernel_rfl) (fun _ _ _ h => h) (Or.inl ⟨by rfl, ?_⟩) (by assumption) ?_
            · intro w hSw
              go_simp
            show wpAnyH _ _ _ _ _ _ _ (Act.put _ (some 40) _) _
            simp only [Act.put, List.setIfInBounds_toArray, List.set_cons_zero, List.set_cons_succ]
            refine wpAnyH_take (i := 4) (v := .pointer (some ⟨b3, o3 + j * 10, none⟩)) rfl (by kernel_rfl) (by kernel_rfl) (by kernel_rfl) (fun _ _ _ h => h) (Or.inl ⟨by rfl, ?_⟩) (by assumption) ?_
            · intro w hSw
              go_simp
            show wpAnyH _ _ _ _ _ _ _ (Act.put _ (some 41) _) _
            simp only [Act.put, List.setIfInBounds_toArray, List.set_cons_zero, List.set_cons_succ]
            refine wpAnyH_take (i := 5) (v := .pointer (some ⟨b3, o3 + j * 10 + 4, none⟩)) rfl (by kernel_rfl) (by kernel_rfl) (by kernel_rfl) (fun _ _ _ h => h) (Or.inl ⟨by rfl, ?_⟩) (by assumption) ?_
            · intro w hSw
              go_simp
            show wpAnyH _ _ _ _ _ _ _ (Act.put _ (some 42) _) _
            simp only [Act.put, List.setIfInBounds_toArray, List.set_cons_zero, List.set_cons_succ]
            refine wpAnyH_take (i := 6) (v := .int .i64 u.node) rfl (by kernel_rfl) (by kernel_rfl) (by kernel_rfl) (fun _ _ _ h => h) (Or.inl ⟨by rfl, ?_⟩) (by assumption) ?_
            · intro w hSw
              obtain ⟨n0, n1, u4, s4⟩ := HLD.out w hSw
              go_simp
            show wpAnyH _ _ _ _ _ _ _ (Act.put _ (some 43) _) _
            simp only [Act.put, List.setIfInBounds_toArray, List.set_cons_zero, List.set_cons_succ]
            refine wpAnyH_take (i := 7) (v := .slice (some ⟨bs, os, none⟩) ss.length c2) rfl (by kernel_rfl) (by kernel_rfl) (by kernel_rfl) (fun _ _ _ h => h) (Or.inl ⟨by rfl, ?_⟩) (by assumption) ?_
            · intro w hSw
              go_simp
            show wpAnyH _ _ _ _ _ _ _ (Act.put _ (some 44) _) _
            simp only [Act.put, List.setIfInBounds_toArray, List.set_cons_zero, List.set_cons_succ]
            refine wpAnyH_take (i := 8) (v := .int .i64 (k : Int)) rfl (by kernel_rfl) (by kernel_rfl) (by kernel_rfl) (fun _ _ _ h => h) (Or.inl ⟨by rfl, ?_⟩) (by assumption) ?_
            · intro w hSw
              go_simp
            show wpAnyH _ _ _ _ _ _ _ (Act.put _ (some 45) _) _
            simp only [Act.put, List.setIfInBounds_toArray, List.set_cons_zero, List.set_cons_succ]
            refine wpAnyH_take (i := 9) (v := .pointer (some ⟨bs, os + k * 5, none⟩)) rfl (by kernel_rfl) (by kernel_rfl) (by kernel_rfl) (fun _ _ _ h => h) (Or.inl ⟨by rfl, ?_⟩) (by assumption) ?_
            · intro w hSw
              go_simp
            show wpAnyH _ _ _ _ _ _ _ (Act.put _ (some 46) _) _
            simp only [Act.put, List.setIfInBounds_toArray, List.set_cons_zero, List.set_cons_succ]
            refine wpAnyH_take (i := 10) (v := .pointer (some ⟨bs, os + k * 5 + 4, none⟩)) rfl (by kernel_rfl) (by kernel_rfl) (by kernel_rfl) (fun _ _ _ h => h) (Or.inl ⟨by rfl, ?_⟩) (by assumption) ?_
            · intro w hSw
              go_simp
            show wpAnyH _ _ _ _ _ _ _ (Act.put _ (some 47) _) _
            simp only [Act.put, List.setIfInBounds_toArray, List.set_cons_zero, List.set_cons_succ]
            refine wpAnyH_take (i := 11) (v := .slice s.nA s.nodes.length s.nc) rfl (by kernel_rfl) (by kernel_rfl) (by kernel_rfl) (fun _ _ _ h => h) (Or.inl ⟨by rfl, ?_⟩) (by assumption) ?_
            · intro w hSw
              obtain ⟨n0, n1, u4, s4⟩ := HLD.out w hSw
              go_simp
            show wpAnyH _ _ _ _ _ _ _ (Act.put _ (some 48) _) _
            simp only [Act.put, List.setIfInBounds_toArray, List.set_cons_zero, List.set_cons_succ]
            refine wpAnyH_ready (rs := [12]) (by kernel_rfl) (by simp) ?_
            refine AllReadyH.cons rfl (fun K hK => ?_) AllReadyH.nil
            go_simp
            ((with_reducible refine HTIME.out.mono ?_))
            rintro e w2 ⟨rfl, hb2⟩
            replace hb2 : Below wr.heap.size wr w2 := ⟨hb2.os, hb2.tape, hb2.output, hb2.size, hb2.block⟩
            go_simp
            refine hK.out _ _ hb2 (fun hHeld => ?_)
            clear hK K
            refine wpAnyH_take (i := 13) (v := .int .i64 (farL D s.nodes)) rfl (by kernel_rfl) (by kernel_rfl) (by kernel_rfl) (fun _ _ _ h => h) (Or.inl ⟨by rfl, ?_⟩) (by assumption) ?_
            · intro w hSw
              go_simp
            refine wpAnyH_done (by kernel_rfl) ?_ _
            have hz2 : wi.heap.size ≤ w2.heap.size := Nat.le_trans hbzq hb2.size
            have hown2 : OwnI w2 wi.heap.size 2 u11 row := OwnV.kept_new hownq hb2
            have hbi2 : Below wi.heap.size wi w2 := HBIQ.out.trans (hb2.mono hbzq)
            go_wp2_with (at_builtin; refine wpList_append_int _ rfl (.tmp 50) (.tmp 52) 25 rfl wi.heap.size 2 Try.underlying25 i64_info _ _ w2 (farL D s.nodes) rfl rfl hown2 rfl (by omega) hz2 ?_; intro v4 w4 hown4 hg4)
            go_roundw
            case rel => exact ⟨j + 1, row ++ [farL D s.nodes], by omega, by go_num, by rw [List.length_append, HRL.out]; rfl, HNEXT.out _ HC.out, hown4, hbi2.grown hg4 hz2 (fun q hq => OwnV.ge_base hown2 q hq)⟩
            case measure => simp [intOf]; omega
        · have hjj : j = us.length := by omega
          subst hjj
          have HRP : Hid (RowP n E ts us s row us.length) := Lib.hid ⟨HRL.out, fun i u c _ hu hc => HCOST.out i u c hu hc⟩
          have hrmr := HRM.out.kept_new HBI.out
          have hwz : w.heap.size + 1 ≤ wi.heap.size := by have := HB.out.size; simpa using this
          have hwzr : w.heap.size + 1 ≤ wr.heap.size := Nat.le_trans hwz hbz
          have hvl : vs.length ≤ 64 := by rw [hrmr.len]; omega
          obtain ⟨Ar, cr, rfl, _⟩ := OwnV.sl hown
          have hownb : OwnI wr (w.heap.size + 1) 2 (.slice Ar row.length cr) row := OwnV.base_le hown hwz
          go_wp2_with (at_builtin; refine wpList_append_one _ rfl (.tmp 54) (.tmp 56) 50 rfl (w.heap.size + 1) 25 Try.underlying50 row_info rfl (by omega) _ _ wr (.slice Ar row.length cr) rfl rfl rfl hrmr.outer rfl (by omega) hwzr ?_; intro v4 w4 hown4 hg4)
          go_roundw
          case rel => exact ⟨k + 1, vs ++ [.slice Ar row.length cr], by omega, by go_num, hrmr.append HSK.out hownb HRP.out hown4 hg4, HBN.out.grown hg4 hwzr (fun q hq => OwnV.ge_base hrmr.outer q hq)⟩
          case measure => simp [intOf]; omega
    · have hkk : k = ss.length := by omega
      subst hkk
      obtain ⟨Ao, co, hv, _⟩ := OwnV.sl HRM.out.outer
      have HV := Lib.hid hv
      rw [HRM.out.len] at hv
      rw [hv]
      clear hv
      go_wp2_with fail
      go_ret
      have hall := HB0.out wr HB.out
      have ho := HRM.out.outer
      rw [HV.out] at ho
      refine ⟨Ao, co, vs, rfl, by simpa using own_sl ho, HRM.out.len, fun i s v hs hv => ?_, hall⟩
      obtain ⟨row, h1, h2⟩ := HRM.out.rows i s v hs hv
      obtain ⟨B, d, e, h3⟩ := OwnV.sl h1
      exact ⟨B, d, row, by rw [e, h2.1], h3, h2⟩
end Go.Proofs.Ytpomakmmjbimfaa
