/-
  dispatchcost.Dispatchable and samaritanref35.Spare return the same units.
-/
import Derived.Test.YtpomakmmjbimfaaUnits
import Derived.Deep.QuietTactic
import Derived.BigQuiet
import Derived.Deep.DeepCutAuto
namespace Go.Proofs.Ytpomakmmjbimfaa
open Go.RowKit Go.Maps

/-- the free units of the district h. -/
def cntH (h : Int) (us : List UnitT) : Nat := us.countP (fun u => u.state == 1 && u.home == h)
theorem cntH_le (h : Int) (us : List UnitT) : cntH h us ≤ us.length := List.countP_le_length
theorem cntH_snoc (h : Int) (us : List UnitT) (u : UnitT) : cntH h (us ++ [u]) = cntH h us + if u.state = 1 ∧ u.home = h then 1 else 0 := by
  unfold cntH
  rw [List.countP_append, List.countP_singleton]
  congr 1
  by_cases h1 : u.state = 1 <;> by_cases h2 : u.home = h <;> simp [h1, h2]
def keepU (r : Int) (us : List UnitT) (k : Nat) (u : UnitT) : Prop := u.state = 1 ∧ r ≤ (cntH u.home (us.take k) : Int)
instance (r : Int) (us : List UnitT) (k : Nat) (u : UnitT) : Decidable (keepU r us k u) := by unfold keepU; infer_instance
def spareR (r : Int) (us : List UnitT) : Nat → List UnitT
  | 0 => []
  | k + 1 => match us[k]? with
    | some u => if keepU r us k u then spareR r us k ++ [u] else spareR r us k
    | none => spareR r us k
theorem spareR_succ {r : Int} {us : List UnitT} {k : Nat} {u : UnitT} (h : us[k]? = some u) : spareR r us (k + 1) = if keepU r us k u then spareR r us k ++ [u] else spareR r us k := by
  rw [spareR, h]
theorem spareR_len (r : Int) (us : List UnitT) (k : Nat) : (spareR r us k).length ≤ k := by
  induction k with
  | zero => simp [spareR]
  | succ k ih =>
    rw [spareR]
    split
    · split
      · rw [List.length_append]
        simp
        omega
      · omega
    · omega
theorem spareR_most (r : Int) (us : List UnitT) (k : Nat) : (spareR r us k).length ≤ (spareR 0 us k).length := by
  induction k with
  | zero => simp [spareR]
  | succ k ih =>
    rw [spareR, spareR]
    split
    · rename_i u _
      by_cases h : keepU r us k u
      · rw [if_pos h, if_pos ⟨h.1, by omega⟩]
        simp
        omega
      · rw [if_neg h]
        split
        · simp
          omega
        · exact ih
    · exact ih
theorem spareR_free (r : Int) (us : List UnitT) (k : Nat) : ∀ u ∈ spareR r us k, u.state = 1 := by
  induction k with
  | zero => simp [spareR]
  | succ k ih =>
    rw [spareR]
    split
    · split
      · rename_i h
        intro u hu
        rw [List.mem_append, List.mem_singleton] at hu
        rcases hu with hu | rfl
        · exact ih u hu
        · exact h.1
      · exact ih
    · exact ih
def effR (urg rsv : Int) : Int := if urg = 1 ∨ urg = 2 then 0 else rsv

/-- what the map holds after k units. -/
def heldK (r : Int) (us : List UnitT) (k : Nat) (h : Int) : Int := min (cntH h (us.take k) : Int) (max 0 r)
theorem heldK_zero (r : Int) (us : List UnitT) : (fun _ => 0) = heldK r us 0 := by
  funext h
  simp [heldK, cntH]
  omega
theorem take_snoc' {α : Type} {us : List α} {k : Nat} {u : α} (h : us[k]? = some u) : us.take (k + 1) = us.take k ++ [u] := by
  have hl := (List.getElem?_eq_some_iff.1 h).1
  rw [List.take_succ_eq_append_getElem hl, (List.getElem?_eq_some_iff.1 h).2]
theorem heldK_skip {r : Int} {us : List UnitT} {k : Nat} {u : UnitT} (h : us[k]? = some u) (hs : u.state ≠ 1) : heldK r us (k + 1) = heldK r us k := by
  funext x
  unfold heldK
  rw [take_snoc' h, cntH_snoc, if_neg (fun c => hs c.1)]
  rfl
theorem heldK_full {r : Int} {us : List UnitT} {k : Nat} {u : UnitT} (h : us[k]? = some u) (hs : ¬ heldK r us k u.home < r) : heldK r us (k + 1) = heldK r us k := by
  funext x
  unfold heldK at hs ⊢
  rw [take_snoc' h, cntH_snoc]
  split
  · rename_i c
    rw [c.2] at hs
    omega
  · rfl
theorem heldK_more {r : Int} {us : List UnitT} {k : Nat} {u : UnitT} (h : us[k]? = some u) (hf : u.state = 1) (hs : heldK r us k u.home < r) : heldK r us (k + 1) = upd (heldK r us k) u.home (heldK r us k u.home + 1) := by
  funext x
  unfold upd
  unfold heldK at hs ⊢
  rw [take_snoc' h, cntH_snoc]
  split
  · rename_i c
    rw [if_pos c.2.symm]
    rw [c.2] at hs ⊢
    omega
  · rename_i c
    rw [if_neg (fun e => c ⟨hf, e.symm⟩)]
    rfl
theorem heldK_lt {r : Int} {us : List UnitT} {k : Nat} {h : Int} : heldK r us k h < r ↔ (cntH h (us.take k) : Int) < r := by
  unfold heldK
  omega

def RetUnits (w : World) (us : List UnitT) (e : Ending) (w' : World) : Prop := ∃ v, e = .returned v ∧ OwnU w' w.heap.size 39 v us ∧ Below w.heap.size w w'

theorem int_zero' (w : World) : (zeroValue 3).run Try.prog w = .ok (.int .i64 0) w := by kernel_rfl

set_option maxRecDepth 100000 in
set_option maxHeartbeats 2000000 in
theorem dispatchable_any (A : Option Addr) (c : Nat) (us : List UnitT) (urg rsv : Int) (w : World) (hu : UnitsAt w w.heap.size A us) (hwf : ∀ u ∈ us, UnitWf u) (hl : us.length ≤ 65536) :
    Calls Try.prog 14 #[.slice A us.length c, .int .i64 urg, .int .i64 rsv] w (RetUnits w (spareR (effR urg rsv) us us.length)) := by
  have HU := Lib.hid hu
  have HWF := Lib.hid hwf
  have hmm := @run_makeMap Try.prog
  clear hu hwf
  go_enter Try.func14, Try.ntmps14
  obtain ⟨r, hr⟩ : ∃ r, r = effR urg rsv := ⟨_, rfl⟩
  have HR := Lib.hid hr
  rw [← hr]
  clear hr
  obtain ⟨B, hB⟩ : ∃ B : Bool, B = decide (urg = 1 ∨ urg = 2) := ⟨_, rfl⟩
  have HBB := Lib.hid hB
  have HR2 : Hid (r = if B = true then 0 else rsv) := Lib.hid (by rw [HR.out, hB, effR]; simp)
  clear hB
  go_upto_region 1 with (fail)
  go_cut [16] (fun v wx => v = .bool B ∧ wx = w)
  case first =>
    by_cases h1 : urg = 1
    · have d1 : (urg == 1) = true := by simp [h1]
      have HQ : Hid (B = true) := Lib.hid (by rw [HBB.out]; simp [h1])
      clear h1
      go_wp2_with fail
      go_meet
      case rel => exact ⟨by rw [HQ.out], rfl⟩
    · have d1 : (urg == 1) = false := by simp [h1]
      by_cases h2 : urg = 2
      · have d2 : (urg == 2) = true := by simp [h2]
        have HQ : Hid (B = true) := Lib.hid (by rw [HBB.out]; simp [h2])
        clear h1 h2
        go_wp2_with fail
        go_meet
        case rel => exact ⟨by rw [HQ.out], rfl⟩
      · have d2 : (urg == 2) = false := by simp [h2]
        have HQ : Hid (B = false) := Lib.hid (by rw [HBB.out]; simp [h1, h2])
        clear h1 h2
        go_wp2_with fail
        go_meet
        case rel => exact ⟨by rw [HQ.out], rfl⟩
  case rest =>
    obtain ⟨rfl, rfl⟩ := hcut
    obtain ⟨w, rfl⟩ : ∃ w : World, w = wc := ⟨_, rfl⟩
    go_upto_if 16 with (fail)
    go_cut [2] (fun v wx => v = .int .i64 r ∧ wx = w)
    case first =>
      cases B
      · go_wp2_with fail
        go_meet
        case rel => exact ⟨by rw [HR2.out]; rfl, rfl⟩
      · go_wp2_with fail
        go_meet
        case rel => exact ⟨by rw [HR2.out]; rfl, rfl⟩
    case rest =>
    obtain ⟨rfl, rfl⟩ := hcut
    clear HR HR2 HBB
    go_wp2_with fail
    have HB0 := Lib.hid ((Below.refl wc.heap.size wc).alloc (Nat.le_refl _) (.map #[] 0))
    obtain ⟨b, hbe⟩ : ∃ b, b = wc.heap.size := ⟨_, rfl⟩
    have HM0 : Hid (MapI Try.prog 3 3 (wc.alloc (.map #[] 0)) b 0 (heldK r us 0)) := Lib.hid (by rw [hbe, ← heldK_zero]; exact MapI.made)
    rw [← hbe]
    have hbz : wc.heap.size ≤ b := by omega
    clear hbe hmm
    go_loopw [8, 20] (fun v i wr => ∃ k : Nat, k ≤ us.length ∧ i = .int .i64 k ∧ MapI Try.prog 3 3 wr b k (heldK r us k) ∧ OwnU wr (b + 1) 39 v (spareR r us k) ∧ Below wc.heap.size wc wr ∧ b < wr.heap.size) (fun _ i _ => us.length - (intOf i).toNat)
    case atStart => exact ⟨0, Nat.zero_le _, rfl, HM0.out, OwnR.nil _ _ _, HB0.out, HM0.out.lt⟩
    case round =>
      clear HM0 HB0
      obtain ⟨k, hk, rfl, hmap, hown, hb, hbr⟩ := hrel
      have hsl := spareR_len r us k
      have hmb := hb.size
      by_cases hlt : k < us.length
      · obtain ⟨u, hu⟩ : ∃ u, us[k]? = some u := ⟨us[k], by simp⟩
        have hwh : (Lit.int .i64 u.home).wf = true := (HWF.out u (List.mem_of_getElem? hu)).home
        obtain ⟨bu, ou, rfl, hbu, c0, c1, c2, c3, c4, c5, c6, c7, c8, c9⟩ := unit_at (HU.out.below hb) hu
        have HSK : Hid (u.state ≠ 1 → heldK r us (k + 1) = heldK r us k) := Lib.hid (heldK_skip hu)
        have HFU : Hid (¬ heldK r us k u.home < r → heldK r us (k + 1) = heldK r us k) := Lib.hid (heldK_full hu)
        have HMO : Hid (u.state = 1 → heldK r us k u.home < r → heldK r us (k + 1) = upd (heldK r us k) u.home (heldK r us k u.home + 1)) := Lib.hid (heldK_more hu)
        have HSP : Hid (spareR r us (k + 1) = if keepU r us k u then spareR r us k ++ [u] else spareR r us k) := Lib.hid (spareR_succ hu)
        have hqq : 0 ≤ heldK r us k u.home ∧ heldK r us k u.home ≤ k := by
          unfold heldK
          have := cntH_le u.home (us.take k)
          have := List.length_take_le k us
          omega
        obtain ⟨id, kind, home, state, node, seq, heard, inc, epoch, acked⟩ := u
        simp only at c0 c1 c2 c3 c4 c5 c6 c7 c8 c9 hwh hqq
        have HBA := Lib.hid (hb.alloc hmb (.cells #[.int .i64 id, .int .i64 kind, .int .i64 home, .int .i64 state, .int .i64 node, .int .i64 seq, .int .i64 heard, .int .i64 inc, .int .i64 epoch, .int .i64 acked] 39))
        replace hmap := hmap.alloc (.cells #[.int .i64 id, .int .i64 kind, .int .i64 home, .int .i64 state, .int .i64 node, .int .i64 seq, .int .i64 heard, .int .i64 inc, .int .i64 epoch, .int .i64 acked] 39)
        replace hown := hown.alloc (.cells #[.int .i64 id, .int .i64 kind, .int .i64 home, .int .i64 state, .int .i64 node, .int .i64 seq, .int .i64 heard, .int .i64 inc, .int .i64 epoch, .int .i64 acked] 39)
        clear hu hb
        by_cases hst : state = 1
        · have ds : (state != 1) = false := by simp [hst]
          have ds' : (state == 1) = true := by simp [hst]
          have HST := Lib.hid hst
          clear hst
          by_cases hq : heldK r us k home < r
          · go_wp2_with (first
              | (at_lookup; refine wpList_look_int _ rfl _ _ 77 rfl 3 3 Try.underlying3 Try.underlying77 Try.underlying3 (int_zero' _) b k _ rfl hmap home rfl hwh ?_; intro q hq; have hqb : 0 ≤ q ∧ q ≤ k ∧ q < r := (by omega); have HQ := Lib.hid hq; clear hq)
              | (at_mapUpdate; refine wpList_put_int _ rfl _ _ _ 77 rfl 3 3 Try.underlying3 Try.underlying77 Try.underlying3 b k _ rfl hmap (by omega) home (q + 1) rfl rfl hwh (WalkArith.wf_i64 (by omega)) ?_; intro w1 hmap1 hg1))
            go_roundw
            case rel =>
              refine ⟨k + 1, by omega, by go_num, ?_, ?_, HBA.out.grown hg1 HBA.out.size (fun j hj => by cases hj; exact hbz), Nat.lt_of_lt_of_le (by simp; omega) hg1.size⟩
              · rw [HMO.out HST.out hq, ← HQ.out]
                exact hmap1
              · rw [HSP.out, if_neg (by rintro ⟨_, h⟩; have := heldK_lt.1 hq; simp only at h; omega)]
                exact hown.kept_map hg1 (by omega)
            case measure => simp [intOf]; omega
          · go_wp2_with (first
              | (at_lookup; refine wpList_look_int _ rfl _ _ 77 rfl 3 3 Try.underlying3 Try.underlying77 Try.underlying3 (int_zero' _) b k _ rfl hmap home rfl hwh ?_; intro q hq; have hqb : 0 ≤ q ∧ q ≤ k ∧ r ≤ q := (by omega); have HQ := Lib.hid hq; clear hq)
              | (at_builtin; refine wpList_append_rec _ rfl _ _ 36 rfl (b + 1) 39 Try.underlying36 unit_info rfl (by omega) (by omega) cellsU_len _ _ (wr.alloc (.cells #[.int .i64 id, .int .i64 kind, .int .i64 home, .int .i64 state, .int .i64 node, .int .i64 seq, .int .i64 heard, .int .i64 inc, .int .i64 epoch, .int .i64 acked] 39)) ⟨id, kind, home, state, node, seq, heard, inc, epoch, acked⟩ (cellsU_one _) _ rfl rfl rfl hown _ rfl (by simp) (by omega) (by simp; omega) ?_; intro v1 w1 hown1 hg1))
            go_roundw
            case rel =>
              refine ⟨k + 1, by omega, by go_num, ?_, ?_, HBA.out.grown hg1 HBA.out.size (fun j hj => by have := hown.ge_base _ hj; omega), Nat.lt_of_lt_of_le (by simp; omega) hg1.size⟩
              · rw [HFU.out hq]
                exact (hmap.kept hg1 (fun e => by have := hown.ge_base _ e.symm; omega)).mono (by omega)
              · rw [HSP.out, if_pos ⟨HST.out, by have := mt heldK_lt.2 hq; simp only; omega⟩]
                exact hown1
            case measure => simp [intOf]; omega
        · have ds : (state != 1) = true := by simp [hst]
          have ds' : (state == 1) = false := by simp [hst]
          have HST := Lib.hid hst
          clear hst
          go_wp2_with fail
          go_roundw
          case rel =>
            refine ⟨k + 1, by omega, by go_num, ?_, ?_, HBA.out, by simp; omega⟩
            · rw [HSK.out HST.out]
              exact hmap.mono (by omega)
            · rw [HSP.out, if_neg (fun h => HST.out h.1)]
              exact hown
          case measure => simp [intOf]; omega
      · have hkk : k = us.length := by omega
        subst hkk
        go_wp2_with fail
        go_ret
        exact ⟨_, rfl, hown.base_le (by omega), hb⟩
end Go.Proofs.Ytpomakmmjbimfaa
