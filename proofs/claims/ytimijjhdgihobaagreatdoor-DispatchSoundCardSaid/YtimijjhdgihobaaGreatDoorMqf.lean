/-
  dispatchcost.Dispatchable and samaritanref35.Spare return the same units.
  The reference's marking of used units (samaritanref31.Left) keeps the counts that responseplan.Unmet keeps.
  No condition: plain lemmas on lists.
  samaritanref31.Left returns a new slice with the same list as the plain function of Unmet, for every two lists of integers shorter than 2^40; nothing that was there changes.
-/
import Derived.Test.YtimijjhdgihobaaGreatDoorMqe
import Derived.Deep.QuietTactic
import Derived.BigQuiet
import Derived.Deep.DeepCutAuto
import Derived.Test.YtimijjhdgihobaaGreatDoorMqa
import Derived.BigGuardPart
import Derived.Deep.Light
namespace Go.Proofs.YtimijjhdgihobaaGreatDoor
section
open Go.RowKit Go.Maps

/-- the free units of the district h. -/
def cntH (h : Int) (us : List UnitT) : Nat := us.countP (fun u => u.state == 1 && u.home == h)
theorem cntH_le (h : Int) (us : List UnitT) : cntH h us ≤ us.length := List.countP_le_length
theorem cntH_snoc (h : Int) (us : List UnitT) (u : UnitT) : cntH h (us ++ [u]) = cntH h us + if u.state = 1 ∧ u.home = h then 1 else 0 := by
  unfold cntH
  rw [List.countP_append, List.countP_singleton]
  congr 1
  by_cases h1 : u.state = 1 <;> by_cases h2 : u.home = h <;> simp [h1, h2]
def keepU (r : Int) (us : List UnitT) (k : Nat) (u : UnitT) : Prop := u.state = 1 ∧ r ≤ (cntH u.home (us.take k) : Int)
instance (r : Int) (us : List UnitT) (k : Nat) (u : UnitT) : Decidable (keepU r us k u) := by unfold keepU; infer_instance
def spareR (r : Int) (us : List UnitT) : Nat → List UnitT
  | 0 => []
  | k + 1 => match us[k]? with
    | some u => if keepU r us k u then spareR r us k ++ [u] else spareR r us k
    | none => spareR r us k
theorem spareR_succ {r : Int} {us : List UnitT} {k : Nat} {u : UnitT} (h : us[k]? = some u) : spareR r us (k + 1) = if keepU r us k u then spareR r us k ++ [u] else spareR r us k := by
  rw [spareR, h]
theorem spareR_len (r : Int) (us : List UnitT) (k : Nat) : (spareR r us k).length ≤ k := by
  induction k with
  | zero => simp [spareR]
  | succ k ih =>
    rw [spareR]
    split
    · split
      · rw [List.length_append]
        simp
        omega
      · omega
    · omega
theorem spareR_most (r : Int) (us : List UnitT) (k : Nat) : (spareR r us k).length ≤ (spareR 0 us k).length := by
  induction k with
  | zero => simp [spareR]
  | succ k ih =>
    rw [spareR, spareR]
    split
    · rename_i u _
      by_cases h : keepU r us k u
      · rw [if_pos h, if_pos ⟨h.1, by omega⟩]
        simp
        omega
      · rw [if_neg h]
        split
        · simp
          omega
        · exact ih
    · exact ih
theorem spareR_free (r : Int) (us : List UnitT) (k : Nat) : ∀ u ∈ spareR r us k, u.state = 1 := by
  induction k with
  | zero => simp [spareR]
  | succ k ih =>
    rw [spareR]
    split
    · split
      · rename_i h
        intro u hu
        rw [List.mem_append, List.mem_singleton] at hu
        rcases hu with hu | rfl
        · exact ih u hu
        · exact h.1
      · exact ih
    · exact ih
def effR (urg rsv : Int) : Int := if urg = 1 ∨ urg = 2 then 0 else rsv

/-- what the map holds after k units. -/
def heldK (r : Int) (us : List UnitT) (k : Nat) (h : Int) : Int := min (cntH h (us.take k) : Int) (max 0 r)
theorem heldK_zero (r : Int) (us : List UnitT) : (fun _ => 0) = heldK r us 0 := by
  funext h
  simp [heldK, cntH]
  omega
theorem take_snoc' {α : Type} {us : List α} {k : Nat} {u : α} (h : us[k]? = some u) : us.take (k + 1) = us.take k ++ [u] := by
  have hl := (List.getElem?_eq_some_iff.1 h).1
  rw [List.take_succ_eq_append_getElem hl, (List.getElem?_eq_some_iff.1 h).2]
theorem heldK_skip {r : Int} {us : List UnitT} {k : Nat} {u : UnitT} (h : us[k]? = some u) (hs : u.state ≠ 1) : heldK r us (k + 1) = heldK r us k := by
  funext x
  unfold heldK
  rw [take_snoc' h, cntH_snoc, if_neg (fun c => hs c.1)]
  rfl
theorem heldK_full {r : Int} {us : List UnitT} {k : Nat} {u : UnitT} (h : us[k]? = some u) (hs : ¬ heldK r us k u.home < r) : heldK r us (k + 1) = heldK r us k := by
  funext x
  unfold heldK at hs ⊢
  rw [take_snoc' h, cntH_snoc]
  split
  · rename_i c
    rw [c.2] at hs
    omega
  · rfl
theorem heldK_more {r : Int} {us : List UnitT} {k : Nat} {u : UnitT} (h : us[k]? = some u) (hf : u.state = 1) (hs : heldK r us k u.home < r) : heldK r us (k + 1) = upd (heldK r us k) u.home (heldK r us k u.home + 1) := by
  funext x
  unfold upd
  unfold heldK at hs ⊢
  rw [take_snoc' h, cntH_snoc]
  split
  · rename_i c
    rw [if_pos c.2.symm]
    rw [c.2] at hs ⊢
    omega
  · rename_i c
    rw [if_neg (fun e => c ⟨hf, e.symm⟩)]
    rfl
theorem heldK_lt {r : Int} {us : List UnitT} {k : Nat} {h : Int} : heldK r us k h < r ↔ (cntH h (us.take k) : Int) < r := by
  unfold heldK
  omega

def RetUnits (w : World) (us : List UnitT) (e : Ending) (w' : World) : Prop := ∃ v, e = .returned v ∧ OwnU w' w.heap.size 43 v us ∧ Below w.heap.size w w'

theorem int_zero' (w : World) : (zeroValue 3).run Tryz.prog w = .ok (.int .i64 0) w := by kernel_rfl

set_option maxRecDepth 100000 in
set_option maxHeartbeats 2000000 in
theorem dispatchable_any (A : Option Addr) (c : Nat) (us : List UnitT) (urg rsv : Int) (w : World) (hu : UnitsAt w w.heap.size A us) (hwf : ∀ u ∈ us, UnitWf u) (hl : us.length ≤ 65536) :
    Calls Tryz.prog 41 #[.slice A us.length c, .int .i64 urg, .int .i64 rsv] w (RetUnits w (spareR (effR urg rsv) us us.length)) := by
  have HU := Lib.hid hu
  have HWF := Lib.hid hwf
  have hmm := @run_makeMap Tryz.prog
  clear hu hwf
  go_enter Tryz.func41, Tryz.ntmps41
  obtain ⟨r, hr⟩ : ∃ r, r = effR urg rsv := ⟨_, rfl⟩
  have HR := Lib.hid hr
  rw [← hr]
  clear hr
  obtain ⟨B, hB⟩ : ∃ B : Bool, B = decide (urg = 1 ∨ urg = 2) := ⟨_, rfl⟩
  have HBB := Lib.hid hB
  have HR2 : Hid (r = if B = true then 0 else rsv) := Lib.hid (by rw [HR.out, hB, effR]; simp)
  clear hB
  go_upto_region 1 with (fail)
  go_cut [16] (fun v wx => v = .bool B ∧ wx = w)
  case first =>
    by_cases h1 : urg = 1
    · have d1 : (urg == 1) = true := by simp [h1]
      have HQ : Hid (B = true) := Lib.hid (by rw [HBB.out]; simp [h1])
      clear h1
      go_wp2_with fail
      go_meet
      case rel => exact ⟨by rw [HQ.out], rfl⟩
    · have d1 : (urg == 1) = false := by simp [h1]
      by_cases h2 : urg = 2
      · have d2 : (urg == 2) = true := by simp [h2]
        have HQ : Hid (B = true) := Lib.hid (by rw [HBB.out]; simp [h2])
        clear h1 h2
        go_wp2_with fail
        go_meet
        case rel => exact ⟨by rw [HQ.out], rfl⟩
      · have d2 : (urg == 2) = false := by simp [h2]
        have HQ : Hid (B = false) := Lib.hid (by rw [HBB.out]; simp [h1, h2])
        clear h1 h2
        go_wp2_with fail
        go_meet
        case rel => exact ⟨by rw [HQ.out], rfl⟩
  case rest =>
    obtain ⟨rfl, rfl⟩ := hcut
    obtain ⟨w, rfl⟩ : ∃ w : World, w = wc := ⟨_, rfl⟩
    go_upto_if 16 with (fail)
    go_cut [2] (fun v wx => v = .int .i64 r ∧ wx = w)
    case first =>
      cases B
      · go_wp2_with fail
        go_meet
        case rel => exact ⟨by rw [HR2.out]; rfl, rfl⟩
      · go_wp2_with fail
        go_meet
        case rel => exact ⟨by rw [HR2.out]; rfl, rfl⟩
    case rest =>
    obtain ⟨rfl, rfl⟩ := hcut
    clear HR HR2 HBB
    go_wp2_with fail
    have HB0 := Lib.hid ((Below.refl wc.heap.size wc).alloc (Nat.le_refl _) (.map #[] 0))
    obtain ⟨b, hbe⟩ : ∃ b, b = wc.heap.size := ⟨_, rfl⟩
    have HM0 : Hid (MapI Tryz.prog 3 3 (wc.alloc (.map #[] 0)) b 0 (heldK r us 0)) := Lib.hid (by rw [hbe, ← heldK_zero]; exact MapI.made)
    rw [← hbe]
    have hbz : wc.heap.size ≤ b := by omega
    clear hbe hmm
    go_loopw [8, 20] (fun v i wr => ∃ k : Nat, k ≤ us.length ∧ i = .int .i64 k ∧ MapI Tryz.prog 3 3 wr b k (heldK r us k) ∧ OwnU wr (b + 1) 43 v (spareR r us k) ∧ Below wc.heap.size wc wr ∧ b < wr.heap.size) (fun _ i _ => us.length - (intOf i).toNat)
    case atStart => exact ⟨0, Nat.zero_le _, rfl, HM0.out, OwnR.nil _ _ _, HB0.out, HM0.out.lt⟩
    case round =>
      clear HM0 HB0
      obtain ⟨k, hk, rfl, hmap, hown, hb, hbr⟩ := hrel
      have hsl := spareR_len r us k
      have hmb := hb.size
      by_cases hlt : k < us.length
      · obtain ⟨u, hu⟩ : ∃ u, us[k]? = some u := ⟨us[k], by simp⟩
        have hwh : (Lit.int .i64 u.home).wf = true := (HWF.out u (List.mem_of_getElem? hu)).home
        obtain ⟨bu, ou, rfl, hbu, c0, c1, c2, c3, c4, c5, c6, c7, c8, c9⟩ := unit_at (HU.out.below hb) hu
        have HSK : Hid (u.state ≠ 1 → heldK r us (k + 1) = heldK r us k) := Lib.hid (heldK_skip hu)
        have HFU : Hid (¬ heldK r us k u.home < r → heldK r us (k + 1) = heldK r us k) := Lib.hid (heldK_full hu)
        have HMO : Hid (u.state = 1 → heldK r us k u.home < r → heldK r us (k + 1) = upd (heldK r us k) u.home (heldK r us k u.home + 1)) := Lib.hid (heldK_more hu)
        have HSP : Hid (spareR r us (k + 1) = if keepU r us k u then spareR r us k ++ [u] else spareR r us k) := Lib.hid (spareR_succ hu)
        have hqq : 0 ≤ heldK r us k u.home ∧ heldK r us k u.home ≤ k := by
          unfold heldK
          have := cntH_le u.home (us.take k)
          have := List.length_take_le k us
          omega
        obtain ⟨id, kind, home, state, node, seq, heard, inc, epoch, acked⟩ := u
        simp only at c0 c1 c2 c3 c4 c5 c6 c7 c8 c9 hwh hqq
        have HBA := Lib.hid (hb.alloc hmb (.cells #[.int .i64 id, .int .i64 kind, .int .i64 home, .int .i64 state, .int .i64 node, .int .i64 seq, .int .i64 heard, .int .i64 inc, .int .i64 epoch, .int .i64 acked] 43))
        replace hmap := hmap.alloc (.cells #[.int .i64 id, .int .i64 kind, .int .i64 home, .int .i64 state, .int .i64 node, .int .i64 seq, .int .i64 heard, .int .i64 inc, .int .i64 epoch, .int .i64 acked] 43)
        replace hown := hown.alloc (.cells #[.int .i64 id, .int .i64 kind, .int .i64 home, .int .i64 state, .int .i64 node, .int .i64 seq, .int .i64 heard, .int .i64 inc, .int .i64 epoch, .int .i64 acked] 43)
        clear hu hb
        by_cases hst : state = 1
        · have ds : (state != 1) = false := by simp [hst]
          have ds' : (state == 1) = true := by simp [hst]
          have HST := Lib.hid hst
          clear hst
          by_cases hq : heldK r us k home < r
          · go_wp2_with (first
              | (at_lookup; refine wpList_look_int _ rfl _ _ 111 rfl 3 3 Tryz.underlying3 Tryz.underlying111 Tryz.underlying3 (int_zero' _) b k _ rfl hmap home rfl hwh ?_; intro q hq; have hqb : 0 ≤ q ∧ q ≤ k ∧ q < r := (by omega); have HQ := Lib.hid hq; clear hq)
              | (at_mapUpdate; refine wpList_put_int _ rfl _ _ _ 111 rfl 3 3 Tryz.underlying3 Tryz.underlying111 Tryz.underlying3 b k _ rfl hmap (by omega) home (q + 1) rfl rfl hwh (WalkArith.wf_i64 (by omega)) ?_; intro w1 hmap1 hg1))
            go_roundw
            case rel =>
              refine ⟨k + 1, by omega, by go_num, ?_, ?_, HBA.out.grown hg1 HBA.out.size (fun j hj => by cases hj; exact hbz), Nat.lt_of_lt_of_le (by simp; omega) hg1.size⟩
              · rw [HMO.out HST.out hq, ← HQ.out]
                exact hmap1
              · rw [HSP.out, if_neg (by rintro ⟨_, h⟩; have := heldK_lt.1 hq; simp only at h; omega)]
                exact hown.kept_map hg1 (by omega)
            case measure => simp [intOf]; omega
          · go_wp2_with (first
              | (at_lookup; refine wpList_look_int _ rfl _ _ 111 rfl 3 3 Tryz.underlying3 Tryz.underlying111 Tryz.underlying3 (int_zero' _) b k _ rfl hmap home rfl hwh ?_; intro q hq; have hqb : 0 ≤ q ∧ q ≤ k ∧ r ≤ q := (by omega); have HQ := Lib.hid hq; clear hq)
              | (at_builtin; refine wpList_append_rec _ rfl _ _ 27 rfl (b + 1) 43 Tryz.underlying27 unit_info rfl (by omega) (by omega) cellsU_len _ _ (wr.alloc (.cells #[.int .i64 id, .int .i64 kind, .int .i64 home, .int .i64 state, .int .i64 node, .int .i64 seq, .int .i64 heard, .int .i64 inc, .int .i64 epoch, .int .i64 acked] 43)) ⟨id, kind, home, state, node, seq, heard, inc, epoch, acked⟩ (cellsU_one _) _ rfl rfl rfl hown _ rfl (by simp) (by omega) (by simp; omega) ?_; intro v1 w1 hown1 hg1))
            go_roundw
            case rel =>
              refine ⟨k + 1, by omega, by go_num, ?_, ?_, HBA.out.grown hg1 HBA.out.size (fun j hj => by have := hown.ge_base _ hj; omega), Nat.lt_of_lt_of_le (by simp; omega) hg1.size⟩
              · rw [HFU.out hq]
                exact (hmap.kept hg1 (fun e => by have := hown.ge_base _ e.symm; omega)).mono (by omega)
              · rw [HSP.out, if_pos ⟨HST.out, by have := mt heldK_lt.2 hq; simp only; omega⟩]
                exact hown1
            case measure => simp [intOf]; omega
        · have ds : (state != 1) = true := by simp [hst]
          have ds' : (state == 1) = false := by simp [hst]
          have HST := Lib.hid hst
          clear hst
          go_wp2_with fail
          go_roundw
          case rel =>
            refine ⟨k + 1, by omega, by go_num, ?_, ?_, HBA.out, by simp; omega⟩
            · rw [HSK.out HST.out]
              exact hmap.mono (by omega)
            · rw [HSP.out, if_neg (fun h => HST.out h.1)]
              exact hown
          case measure => simp [intOf]; omega
      · have hkk : k = us.length := by omega
        subst hkk
        go_wp2_with fail
        go_ret
        exact ⟨_, rfl, hown.base_le (by omega), hb⟩
end
section
/-- how many units of the kind x are not marked. -/
def free : List Int → List Bool → Int → Int
  | h :: hs, u :: us, x => (if h = x ∧ u = false then 1 else 0) + free hs us x
  | _, _, _ => 0

theorem free_none (hs : List Int) (x : Int) : free hs (List.replicate hs.length false) x = cnt hs x := by
  induction hs with
  | nil => rfl
  | cons h t ih =>
    simp only [List.length_cons, List.replicate_succ, free, ih, cnt, List.count_cons]
    by_cases e : h = x
    · subst e
      simp
      omega
    · simp [e]

theorem free_ge (hs : List Int) : ∀ (us : List Bool) (x : Int), 0 ≤ free hs us x := by
  induction hs with
  | nil => intro us x; simp [free]
  | cons h t ih =>
    intro us x
    cases us with
    | nil => simp [free]
    | cons u us =>
      have := ih us x
      simp only [free]
      split <;> omega

theorem free_set (hs : List Int) : ∀ (us : List Bool) (i : Nat) (x : Int), hs[i]? = some x → us[i]? = some false → ∀ y, free hs (us.set i true) y = upd (free hs us) x (free hs us x - 1) y := by
  induction hs with
  | nil => intro us i x h; simp at h
  | cons h t ih =>
    intro us i x hi hu y
    cases us with
    | nil => simp at hu
    | cons u us =>
      cases i with
      | zero =>
        simp at hi hu
        subst hi hu
        simp only [List.set_cons_zero, free, upd]
        by_cases e : y = h
        · subst e
          simp
          omega
        · have e' : ¬ h = y := fun q => e q.symm
          simp [e, e']
      | succ i =>
        simp at hi hu
        have := ih us i x hi hu y
        simp only [List.set_cons_succ, free, this, upd]
        by_cases e : y = x
        · subst e
          simp
          omega
        · simp [e]

theorem free_pos (hs : List Int) : ∀ (us : List Bool) (i : Nat) (x : Int), hs[i]? = some x → us[i]? = some false → 0 < free hs us x := by
  induction hs with
  | nil => intro us i x h; simp at h
  | cons h t ih =>
    intro us i x hi hu
    cases us with
    | nil => simp at hu
    | cons u us =>
      cases i with
      | zero =>
        simp at hi hu
        subst hi hu
        have := free_ge t us h
        simp [free]
        omega
      | succ i =>
        simp at hi hu
        have := ih us i x hi hu
        simp only [free]
        split <;> omega

theorem free_zero (hs : List Int) : ∀ (us : List Bool) (x : Int), us.length = hs.length → (∀ i : Nat, hs[i]? = some x → us[i]? = some true) → free hs us x = 0 := by
  induction hs with
  | nil => intro us x _ _; cases us <;> rfl
  | cons h t ih =>
    intro us x hl hi
    cases us with
    | nil => rfl
    | cons u us =>
      have h1 := ih us x (by simpa using hl) (fun i h => by have := hi (i + 1) (by simpa using h); simpa using this)
      simp only [free, h1]
      by_cases e : h = x
      · have := hi 0 (by simp [e])
        simp at this
        simp [this]
      · simp [e]

/-- the state of the inner loop behind j rounds: U as it was at the start, V as it is now. -/
def Scan (x : Int) (hs : List Int) (U : List Bool) (j : Nat) (d : Bool) (V : List Bool) : Prop :=
  (d = false ∧ V = U ∧ ∀ i, i < j → hs[i]? = some x → U[i]? = some true) ∨ (d = true ∧ ∃ i, hs[i]? = some x ∧ U[i]? = some false ∧ V = U.set i true)

theorem Scan.start (x : Int) (hs : List Int) (U : List Bool) : Scan x hs U 0 false U := .inl ⟨rfl, rfl, fun i h => absurd h (by omega)⟩
theorem Scan.done {x : Int} {hs : List Int} {U : List Bool} {j : Nat} {V : List Bool} (h : Scan x hs U j true V) (j' : Nat) : Scan x hs U j' true V := by
  rcases h with ⟨h, _⟩ | h
  · cases h
  · exact .inr h
theorem Scan.same {x : Int} {hs : List Int} {U : List Bool} {j : Nat} {V : List Bool} (h : Scan x hs U j false V) : V = U := by
  rcases h with ⟨_, h, _⟩ | ⟨h, _⟩
  · exact h
  · cases h
theorem Scan.len {x : Int} {hs : List Int} {U : List Bool} {j : Nat} {d : Bool} {V : List Bool} (h : Scan x hs U j d V) : V.length = U.length := by
  rcases h with ⟨_, h, _⟩ | ⟨_, i, _, _, h⟩ <;> simp [h]
theorem Scan.used {x : Int} {hs : List Int} {U : List Bool} {j : Nat} {V : List Bool} (h : Scan x hs U j false V) (hu : V[j]? = some true) : Scan x hs U (j + 1) false V := by
  rcases h with ⟨h1, rfl, h3⟩ | ⟨h, _⟩
  · refine .inl ⟨rfl, rfl, fun i hi hx => ?_⟩
    by_cases e : i = j
    · subst e
      exact hu
    · exact h3 i (by omega) hx
  · cases h
theorem Scan.miss {x : Int} {hs : List Int} {U : List Bool} {j : Nat} {V : List Bool} {y : Int} (h : Scan x hs U j false V) (hy : hs[j]? = some y) (hne : y ≠ x) : Scan x hs U (j + 1) false V := by
  rcases h with ⟨h1, rfl, h3⟩ | ⟨h, _⟩
  · refine .inl ⟨rfl, rfl, fun i hi hx => ?_⟩
    by_cases e : i = j
    · subst e
      rw [hy] at hx
      injection hx with hx
      exact absurd hx hne
    · exact h3 i (by omega) hx
  · cases h
theorem Scan.hit {x : Int} {hs : List Int} {U : List Bool} {j : Nat} {V : List Bool} (h : Scan x hs U j false V) (hy : hs[j]? = some x) (hu : V[j]? = some false) : Scan x hs U (j + 1) true (V.set j true) := by
  have e := h.same
  subst e
  exact .inr ⟨rfl, j, hy, hu, rfl⟩

theorem Scan.yes {x : Int} {hs : List Int} {U : List Bool} {V : List Bool} (h : Scan x hs U hs.length true V) : 0 < free hs U x ∧ ∀ y, free hs V y = upd (free hs U) x (free hs U x - 1) y := by
  rcases h with ⟨h, _⟩ | ⟨_, i, hx, hu, rfl⟩
  · cases h
  · exact ⟨free_pos hs U i x hx hu, free_set hs U i x hx hu⟩
theorem Scan.no {x : Int} {hs : List Int} {U : List Bool} {V : List Bool} (h : Scan x hs U hs.length false V) (hl : U.length = hs.length) : ¬ 0 < free hs U x := by
  rcases h with ⟨_, rfl, h3⟩ | ⟨h, _⟩
  · rw [free_zero hs V x hl (fun i hi => h3 i (List.getElem?_eq_some_iff.1 hi).1 hi)]
    omega
  · cases h

/-- the inner loop of the second pass: it looks for a unit of kind 2, if the kind z that is wanted is 1. -/
def Scan3 (z : Int) (hs : List Int) (U : List Bool) (j : Nat) (d : Bool) (V : List Bool) : Prop :=
  (z = 1 → Scan 2 hs U j d V) ∧ (z ≠ 1 → d = false ∧ V = U)
theorem Scan3.start (z : Int) (hs : List Int) (U : List Bool) : Scan3 z hs U 0 false U := ⟨fun _ => Scan.start _ _ _, fun _ => ⟨rfl, rfl⟩⟩
theorem Scan3.len {z : Int} {hs : List Int} {U : List Bool} {j : Nat} {d : Bool} {V : List Bool} (h : Scan3 z hs U j d V) : V.length = U.length := by
  by_cases e : z = 1
  · exact (h.1 e).len
  · rw [(h.2 e).2]
theorem Scan3.done {z : Int} {hs : List Int} {U : List Bool} {j : Nat} {V : List Bool} (h : Scan3 z hs U j true V) (j' : Nat) : Scan3 z hs U j' true V := by
  by_cases e : z = 1
  · exact ⟨fun e => (h.1 e).done j', fun e' => absurd e e'⟩
  · exact absurd (h.2 e).1 (by simp)
theorem Scan3.used {z : Int} {hs : List Int} {U : List Bool} {j : Nat} {V : List Bool} (h : Scan3 z hs U j false V) (hu : V[j]? = some true) : Scan3 z hs U (j + 1) false V :=
  ⟨fun e => (h.1 e).used hu, h.2⟩
theorem Scan3.miss {z : Int} {hs : List Int} {U : List Bool} {j : Nat} {V : List Bool} {y : Int} (h : Scan3 z hs U j false V) (hy : hs[j]? = some y) (hne : y ≠ 2) : Scan3 z hs U (j + 1) false V :=
  ⟨fun e => (h.1 e).miss hy hne, h.2⟩
theorem Scan3.other {z : Int} {hs : List Int} {U : List Bool} {j : Nat} {V : List Bool} (h : Scan3 z hs U j false V) (hne : z ≠ 1) : Scan3 z hs U (j + 1) false V :=
  ⟨fun e => absurd e hne, h.2⟩
theorem Scan3.hit {hs : List Int} {U : List Bool} {j : Nat} {V : List Bool} (h : Scan3 1 hs U j false V) (hy : hs[j]? = some 2) (hu : V[j]? = some false) : Scan3 1 hs U (j + 1) true (V.set j true) :=
  ⟨fun e => (h.1 e).hit hy hu, fun e => absurd rfl e⟩
theorem Scan3.same {z : Int} {hs : List Int} {U : List Bool} {j : Nat} {V : List Bool} (h : Scan3 z hs U j false V) : V = U := by
  by_cases e : z = 1
  · exact (h.1 e).same
  · exact (h.2 e).2
theorem Scan3.yes {z : Int} {hs : List Int} {U : List Bool} {V : List Bool} (h : Scan3 z hs U hs.length true V) : (z = 1 ∧ 0 < free hs U 2) ∧ ∀ y, free hs V y = upd (free hs U) 2 (free hs U 2 - 1) y := by
  by_cases e : z = 1
  · exact ⟨⟨e, (h.1 e).yes.1⟩, (h.1 e).yes.2⟩
  · exact absurd (h.2 e).1 (by simp)
theorem Scan3.no {z : Int} {hs : List Int} {U : List Bool} {V : List Bool} (h : Scan3 z hs U hs.length false V) (hl : U.length = hs.length) : ¬ (z = 1 ∧ 0 < free hs U 2) :=
  fun q => (h.1 q.1).no hl q.2
end
section
open Go.RowKit Go.Maps

theorem bool_info : (Tryz.prog.info? 4).map (fun i => (i.zero, i.size, i.bytes)) = some (some (.bool false), 1, 1) := by kernel_rfl

theorem below_drewN {B : Nat} {a w : World} (h : Below B a w) (n : Nat) : Below B a (w.drewN n) := ⟨h.os, h.tape, h.output, h.size, h.block⟩

set_option maxRecDepth 100000 in
set_option maxHeartbeats 4000000 in
theorem left_any (A C : Option Addr) (c d : Nat) (ws hs : List Int) (w : World) (ha : Sl w w.heap.size A (ws.map (Value.int .i64))) (hb : Sl w w.heap.size C (hs.map (Value.int .i64)))
    (na : ws.length ≤ 1099511627776) (nb : hs.length ≤ 1099511627776) :
    Calls Tryz.prog 26 #[.slice A ws.length c, .slice C hs.length d] w (RetI 3 w (unmet ws hs)) := by
  go_enter Tryz.func26, Tryz.ntmps26
  go_wp2_with fail
  go_loopw [5, 6] (fun v i wr => ∃ k : Nat, k ≤ hs.length ∧ i = .int .i64 k ∧ OwnB wr w.heap.size 4 v (List.replicate k false) ∧ Below w.heap.size w wr) (fun _ i _ => hs.length - (intOf i).toNat)
  case atStart => exact ⟨0, Nat.zero_le _, rfl, OwnV.nil _ _ _, Below.refl _ _⟩
  case round =>
    obtain ⟨k, hk, rfl, hown, hnx⟩ := hrel
    by_cases hlt : k < hs.length
    · have hll : (List.replicate k false).length = k := by simp
      have HLL := Lib.hid hll
      clear hll
      go_wp2_with (at_builtin; refine wpList_append_one _ rfl _ _ 99 rfl w.heap.size 4 Tryz.underlying99 bool_info rfl (by omega) _ _ wr false rfl rfl rfl hown rfl (by rw [HLL.out]; omega) hnx.size ?_; intro v1 w1 hown1 hg1)
      go_roundw
      case rel =>
        refine ⟨k + 1, by omega, by go_num, ?_, hnx.grown hg1 hnx.size (fun j hj => hown.ge_base j hj)⟩
        rw [List.replicate_succ']
        exact hown1
      case measure => simp [intOf]; omega
    · have hkk : k = hs.length := by omega
      subst hkk
      obtain ⟨U0, hU0⟩ : ∃ U, U = List.replicate hs.length false := ⟨_, rfl⟩
      rw [← hU0] at hown
      have hul : U0.length = hs.length := by rw [hU0]; simp
      have hfr : ∀ x, free hs U0 x = (pass2 hs []).1 x := fun x => by rw [hU0]; exact free_none hs x
      have HFR := Lib.hid hfr
      obtain ⟨AU, cu, hv, _⟩ := hown.sl
      rw [hv] at hown ⊢
      rw [hul] at hown ⊢
      have HUL := Lib.hid hul
      clear hU0 hfr hv hul
      have hsz0 := hown.lt_size
      have HSZ := Lib.hid hsz0
      have HW1 := Lib.hid hnx.size
      clear hsz0
      go_wp2_with fail
      obtain ⟨w1, rfl⟩ : ∃ w1 : World, w1 = wr := ⟨_, rfl⟩
      go_loopw [7, 8] (fun v i wr => ∃ k : Nat, k ≤ ws.length ∧ i = .int .i64 k ∧ ∃ U : List Bool, U.length = hs.length ∧ (∀ x, free hs U x = (pass2 hs (ws.take k)).1 x) ∧ OwnB wr w.heap.size 4 (.slice AU hs.length cu) U ∧ OwnI wr w1.heap.size 3 v (pass2 hs (ws.take k)).2 ∧ Below w.heap.size w wr ∧ w1.heap.size ≤ wr.heap.size) (fun _ i _ => ws.length - (intOf i).toNat)
      case atStart => exact ⟨0, Nat.zero_le _, rfl, U0, HUL.out, HFR.out, hown, OwnV.nil _ _ _, hnx, Nat.le_refl _⟩
      case round =>
        clear hown hnx hlt hk
        obtain ⟨k, hk, rfl, U, hul, hfr, hown, hrow, hnx, hsz⟩ := hrel
        by_cases hlt : k < ws.length
        · obtain ⟨x, hx⟩ : ∃ x, ws[k]? = some x := ⟨ws[k], by simp⟩
          obtain ⟨b2, o2, rfl, hbb2, hcell2⟩ := ha.int hx
          have HST : Hid (pass2 hs (ws.take (k + 1)) = step2 (pass2 hs (ws.take k)) x) := by
            rw [take_snoc hx]
            exact pass2_snoc _ _ _
          have hrl := (pass2_bd hs (ws.take k)).2
          have hcl : (ws.take k).length ≤ k := List.length_take_le _ _
          have HUL := Lib.hid hul
          have HFR := Lib.hid hfr
          clear hx hul hfr
          go_wp2_with fail
          obtain ⟨w2, rfl⟩ : ∃ w2 : World, w2 = wr := ⟨_, rfl⟩
          go_loopw [9, 10] (fun dv i wr => ∃ j : Nat, j ≤ hs.length ∧ i = .int .i64 j ∧ ∃ (d : Bool) (V : List Bool), dv = .bool d ∧ Scan x hs U j d V ∧ OwnB wr w.heap.size 4 (.slice AU hs.length cu) V ∧ OwnI wr w1.heap.size 3 u7 (pass2 hs (ws.take k)).2 ∧ Below w.heap.size w wr ∧ w1.heap.size ≤ wr.heap.size) (fun _ i _ => hs.length - (intOf i).toNat)
          case atStart => exact ⟨0, Nat.zero_le _, rfl, false, U, rfl, Scan.start _ _ _, hown, hrow, hnx, hsz⟩
          case round =>
            clear hown hrow hnx hsz
            obtain ⟨j, hj, rfl, d, V, rfl, hscan, hown, hrow, hnx, hsz⟩ := hrel
            by_cases hjl : j < hs.length
            · obtain ⟨y, hy⟩ : ∃ y, hs[j]? = some y := ⟨hs[j], by simp⟩
              obtain ⟨b, o, rfl, hbb, hcell⟩ := hb.int hy
              have hVl : j < V.length := by rw [hscan.len, HUL.out]; exact hjl
              obtain ⟨u, hu⟩ : ∃ u, V[j]? = some u := ⟨V[j], by simp⟩
              have hc1 : wr.cell? ⟨b, o + j, none⟩ = some (.int .i64 y) := (hnx.cell (p := ⟨b, o + j, none⟩) hbb).trans hcell
              have hc2 : wr.cell? ⟨b2, o2 + k, none⟩ = some (.int .i64 x) := (hnx.cell (p := ⟨b2, o2 + k, none⟩) hbb2).trans hcell2
              obtain ⟨g, c', hv, hg1, hg2, hcu, hfu⟩ := hown.form hu
              injection hv with hA hB hC
              subst hA
              have hgs : g < w1.heap.size := HSZ.out g rfl
              have HU := Lib.hid hu
              have HY := Lib.hid hy
              clear hu hy hB hC hcell
              cases d
              · cases u
                · by_cases hyx : y = x
                  · subst hyx
                    go_wp2_with fail
                    go_quiet (fail)
                    go_wp2_with fail
                    go_roundw
                    case rel =>
                      refine ⟨j + 1, by omega, by go_num, true, V.set j true, rfl, hscan.hit HY.out HU.out, ?_, ?_, ?_, ?_⟩
                      · exact (hown.drewN nq).stored j true
                      · exact (hrow.drewN nq).setCell_below (a := ⟨g, j, none⟩) hgs _
                      · exact (below_drewN hnx nq).setCell (p := ⟨g, j, none⟩) hg1 _
                      · simpa using hsz
                    case measure => simp [intOf]; omega
                  · have hyb : (y == x) = false := by simp [hyx]
                    go_wp2_with fail
                    go_quiet (fail)
                    go_wp2_with fail
                    go_roundw
                    case rel => exact ⟨j + 1, by omega, by go_num, false, V, rfl, hscan.miss HY.out hyx, hown.drewN nq, hrow.drewN nq, below_drewN hnx nq, hsz⟩
                    case measure => simp [intOf]; omega
                · go_wp2_with fail
                  go_quiet (fail)
                  go_wp2_with fail
                  go_roundw
                  case rel => exact ⟨j + 1, by omega, by go_num, false, V, rfl, hscan.used HU.out, hown.drewN nq, hrow.drewN nq, below_drewN hnx nq, hsz⟩
                  case measure => simp [intOf]; omega
              · go_wp2_with fail
                go_quiet (fail)
                go_wp2_with fail
                go_roundw
                case rel => exact ⟨j + 1, by omega, by go_num, true, V, rfl, hscan.done _, hown.drewN nq, hrow.drewN nq, below_drewN hnx nq, hsz⟩
                case measure => simp [intOf]; omega
            · have hjj : j = hs.length := by omega
              subst hjj
              have hc2 : wr.cell? ⟨b2, o2 + k, none⟩ = some (.int .i64 x) := (hnx.cell (p := ⟨b2, o2 + k, none⟩) hbb2).trans hcell2
              cases d
              · have hno := hscan.no HUL.out
                have hVU := hscan.same
                subst hVU
                have HNO : Hid (¬ 0 < (pass2 hs (ws.take k)).1 x) := by rw [HFR.out] at hno; exact hno
                clear hscan hno
                go_wp2_with (at_builtin; refine wpList_append_int _ rfl _ _ 44 rfl w1.heap.size 3 Tryz.underlying44 int_info _ _ wr x rfl rfl hrow rfl (by omega) hsz ?_; intro v4 w4 hrow4 hg4)
                go_roundw
                case rel =>
                  refine ⟨k + 1, by omega, by go_num, V, HUL.out, ?_, hown.kept_far HSZ.out hg4 (fun j hj => hrow.ge_base j hj), ?_, hnx.grown hg4 hnx.size (fun j hj => Nat.le_trans (HW1.out) (hrow.ge_base j hj)), Nat.le_trans hsz hg4.size⟩
                  · intro y
                    rw [HST.out, step2_no HNO.out]
                    exact HFR.out y
                  · rw [HST.out, step2_no HNO.out]
                    exact hrow4
                case measure => simp [intOf]; omega
              · have hyes := hscan.yes
                have hvl := hscan.len
                have HYES : Hid (0 < (pass2 hs (ws.take k)).1 x ∧ V.length = hs.length ∧ ∀ y, free hs V y = upd (pass2 hs (ws.take k)).1 x ((pass2 hs (ws.take k)).1 x - 1) y) := by
                  refine ⟨by rw [← HFR.out]; exact hyes.1, by rw [hvl]; exact HUL.out, fun y => ?_⟩
                  rw [hyes.2 y]
                  unfold upd
                  rw [HFR.out, HFR.out]
                clear hscan hyes hvl
                go_wp2_with fail
                go_roundw
                case rel =>
                  refine ⟨k + 1, by omega, by go_num, V, HYES.out.2.1, ?_, hown, ?_, hnx, hsz⟩
                  · intro y
                    rw [HST.out, step2_yes HYES.out.1]
                    exact HYES.out.2.2 y
                  · rw [HST.out, step2_yes HYES.out.1]
                    exact hrow
                case measure => simp [intOf]; omega
        · have hkk : k = ws.length := by omega
          subst hkk
          rw [List.take_length] at hrow hfr
          have hcb := (pass2_bd hs ws).1
          have hrl := (pass2_bd hs ws).2
          have HCB := Lib.hid hcb
          clear hcb
          obtain ⟨A2, c2, hv2, _⟩ := hrow.sl
          rw [hv2] at hrow ⊢
          generalize hp : pass2 hs ws = pp at *
          obtain ⟨gg, rest⟩ := pp
          have HP : Hid (unmet ws hs = (pass3 gg rest).2) := by show _ = _; unfold unmet; rw [hp]
          clear hp hv2
          simp only at hrow hrl hfr ⊢
          have HFR3 := Lib.hid hfr
          have HUL := Lib.hid hul
          have HSZ3 := Lib.hid hrow.lt_size
          clear hfr hul
          have HSZw := Lib.hid (Nat.le_trans HW1.out hsz)
          go_wp2_with fail
          obtain ⟨w3, rfl⟩ : ∃ w3 : World, w3 = wr := ⟨_, rfl⟩
          go_loopw [11, 12] (fun v i wr => ∃ k : Nat, k ≤ rest.length ∧ i = .int .i64 k ∧ ∃ U : List Bool, U.length = hs.length ∧ (∀ x, free hs U x = (pass3 gg (rest.take k)).1 x) ∧ OwnB wr w.heap.size 4 (.slice AU hs.length cu) U ∧ OwnI wr w1.heap.size 3 (.slice A2 rest.length c2) rest ∧ OwnI wr w3.heap.size 3 v (pass3 gg (rest.take k)).2 ∧ Below w.heap.size w wr ∧ w3.heap.size ≤ wr.heap.size) (fun _ i _ => rest.length - (intOf i).toNat)
          case atStart => exact ⟨0, Nat.zero_le _, rfl, U, HUL.out, HFR3.out, hown, hrow, OwnV.nil _ _ _, hnx, Nat.le_refl _⟩
          case round =>
            have HW3 := Lib.hid hsz
            clear hown hrow hnx hlt hk HFR3 HUL hsz
            obtain ⟨k, hk, rfl, U, hul, hfr, hown, hrow, hout, hnx, hsz⟩ := hrel
            by_cases hlt : k < rest.length
            · obtain ⟨x, hx⟩ : ∃ x, rest[k]? = some x := ⟨rest[k], by simp⟩
              obtain ⟨b2, o2, rfl, hcell2⟩ := hrow.cell hx
              have HST : Hid (pass3 gg (rest.take (k + 1)) = step3 (pass3 gg (rest.take k)) x) := by
                rw [take_snoc hx]
                exact pass3_snoc _ _ _
              have hrl3 := (pass3_bd gg hs.length HCB.out (rest.take k)).2
              have hcl : (rest.take k).length ≤ k := List.length_take_le _ _
              have HUL := Lib.hid hul
              have HFR := Lib.hid hfr
              have HX := Lib.hid hx
              clear hx hul hfr hcell2
              go_wp2_with fail
              obtain ⟨w4, rfl⟩ : ∃ w4 : World, w4 = wr := ⟨_, rfl⟩
              go_loopw [13, 14] (fun dv i wr => ∃ j : Nat, j ≤ hs.length ∧ i = .int .i64 j ∧ ∃ (d : Bool) (V : List Bool), dv = .bool d ∧ Scan3 x hs U j d V ∧ OwnB wr w.heap.size 4 (.slice AU hs.length cu) V ∧ OwnI wr w1.heap.size 3 (.slice (some ⟨b2, o2, none⟩) rest.length c2) rest ∧ OwnI wr w3.heap.size 3 u11 (pass3 gg (rest.take k)).2 ∧ Below w.heap.size w wr ∧ w3.heap.size ≤ wr.heap.size) (fun _ i _ => hs.length - (intOf i).toNat)
              case atStart => exact ⟨0, Nat.zero_le _, rfl, false, U, rfl, Scan3.start _ _ _, hown, hrow, hout, hnx, hsz⟩
              case round =>
                clear hown hrow hnx hsz hout
                obtain ⟨j, hj, rfl, d, V, rfl, hscan, hown, hrow, hout, hnx, hsz⟩ := hrel
                have hc2 : wr.cell? ⟨b2, o2 + k, none⟩ = some (.int .i64 x) := by
                  obtain ⟨b3, o3, e3, hc3⟩ := hrow.cell HX.out
                  injection e3 with e3
                  injection e3 with e4 e5 e6
                  subst e4 e5
                  exact hc3
                by_cases hjl : j < hs.length
                · obtain ⟨y, hy⟩ : ∃ y, hs[j]? = some y := ⟨hs[j], by simp⟩
                  obtain ⟨b, o, rfl, hbb, hcell⟩ := hb.int hy
                  have hVl : j < V.length := by rw [hscan.len, HUL.out]; exact hjl
                  obtain ⟨u, hu⟩ : ∃ u, V[j]? = some u := ⟨V[j], by simp⟩
                  have hc1 : wr.cell? ⟨b, o + j, none⟩ = some (.int .i64 y) := (hnx.cell (p := ⟨b, o + j, none⟩) hbb).trans hcell
                  obtain ⟨g, c', hv, hg1, hg2, hcu, hfu⟩ := hown.form hu
                  injection hv with hA hB hC
                  subst hA
                  have hgs : g < w1.heap.size := HSZ.out g rfl
                  have hgs3 : g < w3.heap.size := Nat.lt_of_lt_of_le hgs HW3.out
                  have HU := Lib.hid hu
                  have HY := Lib.hid hy
                  clear hu hy hB hC hcell
                  cases d
                  · cases u
                    · by_cases hyx : y = 2
                      · subst hyx
                        by_cases hx1 : x = 1
                        · subst hx1
                          go_wp2_with fail
                          go_roundw
                          case rel =>
                            refine ⟨j + 1, by omega, by go_num, true, V.set j true, rfl, hscan.hit HY.out HU.out, ?_, ?_, ?_, ?_, ?_⟩
                            · exact hown.stored j true
                            · exact hrow.setCell_below (a := ⟨g, j, none⟩) hgs _
                            · exact hout.setCell_below (a := ⟨g, j, none⟩) hgs3 _
                            · exact hnx.setCell (p := ⟨g, j, none⟩) hg1 _
                            · simpa using hsz
                          case measure => simp [intOf]; omega
                        · have hxb : (x == 1) = false := by simp [hx1]
                          go_wp2_with fail
                          go_roundw
                          case rel => exact ⟨j + 1, by omega, by go_num, false, V, rfl, hscan.other hx1, hown, hrow, hout, hnx, hsz⟩
                          case measure => simp [intOf]; omega
                      · have hyb : (y == 2) = false := by simp [hyx]
                        go_wp2_with fail
                        go_roundw
                        case rel => exact ⟨j + 1, by omega, by go_num, false, V, rfl, hscan.miss HY.out hyx, hown, hrow, hout, hnx, hsz⟩
                        case measure => simp [intOf]; omega
                    · go_wp2_with fail
                      go_roundw
                      case rel => exact ⟨j + 1, by omega, by go_num, false, V, rfl, hscan.used HU.out, hown, hrow, hout, hnx, hsz⟩
                      case measure => simp [intOf]; omega
                  · go_wp2_with fail
                    go_roundw
                    case rel => exact ⟨j + 1, by omega, by go_num, true, V, rfl, hscan.done _, hown, hrow, hout, hnx, hsz⟩
                    case measure => simp [intOf]; omega
                · have hjj : j = hs.length := by omega
                  subst hjj
                  cases d
                  · have hno := hscan.no HUL.out
                    have hVU := hscan.same
                    subst hVU
                    have HNO : Hid (¬ (x = 1 ∧ 0 < (pass3 gg (rest.take k)).1 2)) := by rw [HFR.out] at hno; exact hno
                    clear hscan hno
                    go_wp2_with (at_builtin; refine wpList_append_int _ rfl _ _ 44 rfl w3.heap.size 3 Tryz.underlying44 int_info _ _ wr x rfl rfl hout rfl (by omega) hsz ?_; intro v4 w4 hout4 hg4)
                    go_roundw
                    case rel =>
                      refine ⟨k + 1, by omega, by go_num, V, HUL.out, ?_, ?_, hrow.kept_far HSZ3.out hg4 (fun j hj => hout.ge_base j hj), ?_, hnx.grown hg4 hnx.size (fun j hj => Nat.le_trans HSZw.out (hout.ge_base j hj)), Nat.le_trans hsz hg4.size⟩
                      · intro y
                        rw [HST.out, step3_no HNO.out]
                        exact HFR.out y
                      · exact hown.kept_far (fun j hj => Nat.lt_of_lt_of_le (HSZ.out j hj) HW3.out) hg4 (fun j hj => hout.ge_base j hj)
                      · rw [HST.out, step3_no HNO.out]
                        exact hout4
                    case measure => simp [intOf]; omega
                  · have hyes := hscan.yes
                    have hvl := hscan.len
                    have HYES : Hid ((x = 1 ∧ 0 < (pass3 gg (rest.take k)).1 2) ∧ V.length = hs.length ∧ ∀ y, free hs V y = upd (pass3 gg (rest.take k)).1 2 ((pass3 gg (rest.take k)).1 2 - 1) y) := by
                      refine ⟨by rw [← HFR.out]; exact hyes.1, by rw [hvl]; exact HUL.out, fun y => ?_⟩
                      rw [hyes.2 y]
                      unfold upd
                      rw [HFR.out, HFR.out]
                    clear hscan hyes hvl
                    go_wp2_with fail
                    go_roundw
                    case rel =>
                      refine ⟨k + 1, by omega, by go_num, V, HYES.out.2.1, ?_, hown, hrow, ?_, hnx, hsz⟩
                      · intro y
                        rw [HST.out, step3_yes HYES.out.1]
                        exact HYES.out.2.2 y
                      · rw [HST.out, step3_yes HYES.out.1]
                        exact hout
                    case measure => simp [intOf]; omega
            · have hkk : k = rest.length := by omega
              subst hkk
              rw [List.take_length] at hout
              clear hfr hul
              go_wp2_with fail
              go_ret
              refine ⟨_, rfl, ?_, hnx⟩
              rw [HP.out]
              exact hout.base_le HSZw.out
end
end Go.Proofs.YtimijjhdgihobaaGreatDoor
