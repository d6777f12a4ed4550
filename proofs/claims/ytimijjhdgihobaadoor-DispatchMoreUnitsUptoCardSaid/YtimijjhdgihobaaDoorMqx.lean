/-
  dispatch.send.
  dispatch.limited.
  dispatch.slotsOf.
  slices.Clone at []api.Unit (lines of XEdges).
-/
import Derived.Test.YtimijjhdgihobaaDoorMqs
import Derived.Test.YtimijjhdgihobaaDoorMqk
import Derived.Test.YtimijjhdgihobaaDoorMqw
namespace Go.Proofs.YtimijjhdgihobaaDoor
section
open Go.RowKit Go.Maps

theorem flat_put {α : Type} {cs : α → List Value} {s : Nat} (hs : ∀ a, (cs a).length = s) : ∀ {xs : List α} {k j : Nat} {u z : α} {v : Value}, xs[k]? = some u → cs z = (cs u).set j v → j < s → (xs.flatMap cs).set (k * s + j) v = (xs.set k z).flatMap cs
  | [], k, j, u, z, v, h, _, _ => by simp at h
  | x :: xs, 0, j, u, z, v, h, hz, hj => by
    simp only [List.getElem?_cons_zero, Option.some.injEq] at h
    subst h
    rw [List.set_cons_zero, List.flatMap_cons, List.flatMap_cons, Nat.zero_mul, Nat.zero_add, List.set_append_left _ _ (by rw [hs]; exact hj), hz]
  | x :: xs, k + 1, j, u, z, v, h, hz, hj => by
    rw [List.getElem?_cons_succ] at h
    have ih := flat_put hs (v := v) h hz hj
    have e : (k + 1) * s + j - s = k * s + j := by rw [Nat.add_mul]; omega
    rw [List.set_cons_succ, List.flatMap_cons, List.flatMap_cons, List.set_append_right _ _ (by rw [hs, Nat.add_mul]; omega), hs, e, ih]
def sentU (u : UnitT) (x : Int) : UnitT := { u with state := 2, inc := x }
theorem own_sent {w : World} {base g n c : Nat} {us : List UnitT} (h : OwnU w base 44 (.slice (some ⟨g, 0, none⟩) n c) us) {k : Nat} {u : UnitT} (hk : us[k]? = some u) (x : Int) :
    OwnU ((w.setCell ⟨g, k * 10 + 3, none⟩ (.int .i64 2)).setCell ⟨g, k * 10 + 7, none⟩ (.int .i64 x)) base 44 (.slice (some ⟨g, 0, none⟩) n c) (us.set k (sentU u x)) := by
  have hn := h.caps.1
  subst hn
  have hlt := (List.getElem?_eq_some_iff.1 hk).1
  have h' : w.ownsRow base 44 10 (.slice (some ⟨g, 0, none⟩) us.length c) us.length (us.flatMap cellsU) := h
  have h1 := ((h'.stored (k * 10 + 3) (.int .i64 2)).1.stored (k * 10 + 7) (.int .i64 x)).1
  rw [flat_put cellsU_len (z := { u with state := 2 }) hk rfl (by omega), flat_put cellsU_len (k := k) (z := sentU u x) (u := { u with state := 2 }) (by rw [List.getElem?_set_self hlt]) rfl (by omega), List.set_set] at h1
  unfold OwnU OwnR
  rw [List.length_set]
  exact h1
/-- the units, k of them looked at. -/
def Snt (us : List UnitT) (c : ChoT) (k : Nat) (L : List UnitT) : Prop := L.length = us.length ∧ (∀ j, j < k → L[j]? = (sendU us c)[j]?) ∧ ∀ j, k ≤ j → L[j]? = us[j]?
theorem Snt.start (us : List UnitT) (c : ChoT) : Snt us c 0 us := ⟨rfl, fun j hj => by omega, fun _ _ => rfl⟩
theorem Snt.put {us L : List UnitT} {c : ChoT} {k : Nat} {u : UnitT} (h : Snt us c k L) (hk : us[k]? = some u) (he : u.id = c.unit) : Snt us c (k + 1) (L.set k (sentU u c.inc)) := by
  have hlt := (List.getElem?_eq_some_iff.1 hk).1
  refine ⟨by rw [List.length_set]; exact h.1, fun j hj => ?_, fun j hj => by rw [List.getElem?_set_ne (by omega)]; exact h.2.2 j (by omega)⟩
  by_cases e : j = k
  · subst e
    rw [List.getElem?_set_self (by rw [h.1]; exact hlt)]
    unfold sendU
    rw [List.getElem?_map, hk]
    simp [he, sentU]
  · rw [List.getElem?_set_ne (by omega)]
    exact h.2.1 j (by omega)
theorem Snt.skip {us L : List UnitT} {c : ChoT} {k : Nat} {u : UnitT} (h : Snt us c k L) (hk : us[k]? = some u) (he : u.id ≠ c.unit) : Snt us c (k + 1) L := by
  refine ⟨h.1, fun j hj => ?_, fun j hj => h.2.2 j (by omega)⟩
  by_cases e : j = k
  · subst e
    rw [h.2.2 j (Nat.le_refl _), hk]
    unfold sendU
    rw [List.getElem?_map, hk]
    simp [he]
  · exact h.2.1 j (by omega)
theorem Snt.done {us L : List UnitT} {c : ChoT} (h : Snt us c us.length L) : L = sendU us c := by
  refine List.ext_getElem? fun j => ?_
  by_cases e : j < us.length
  · exact h.2.1 j e
  · rw [h.2.2 j (by omega), List.getElem?_eq_none (by omega), List.getElem?_eq_none (by rw [sendU_len]; omega)]
def choV (c : ChoT) : Value := .agg #[.int .i64 c.inc, .int .i64 c.kind, .int .i64 c.unit, .int .i64 c.time]
/-- what send brings about. -/
def RetSend (X : World) (base g n c0 : Nat) (us : List UnitT) (c : ChoT) (e : Ending) (X' : World) : Prop :=
  e = .returned (.tuple #[]) ∧ OwnU X' base 44 (.slice (some ⟨g, 0, none⟩) n c0) (sendU us c) ∧ Only (fun j => j = g) X X'
set_option maxRecDepth 100000 in
set_option maxHeartbeats 16000000 in
theorem send_any (X : World) (base g n c0 : Nat) (us : List UnitT) (c : ChoT) (hl : us.length ≤ 65536) (hown : OwnU X base 44 (.slice (some ⟨g, 0, none⟩) n c0) us) :
    Calls Tryd.prog 31 #[.slice (some ⟨g, 0, none⟩) n c0, .agg #[.int .i64 c.inc, .int .i64 c.kind, .int .i64 c.unit, .int .i64 c.time]] X (RetSend X base g n c0 us c) := by
  have hn := hown.caps.1
  have hg := hown.one.1
  obtain ⟨W, hW⟩ : ∃ W, W = X.alloc (.cells #[.int .i64 c.inc, .int .i64 c.kind, .int .i64 c.unit, .int .i64 c.time] 46) := ⟨_, rfl⟩
  have hbx := blk_new X [.int .i64 c.inc, .int .i64 c.kind, .int .i64 c.unit, .int .i64 c.time] 46
  have HW : Hid (OwnU W base 44 (.slice (some ⟨g, 0, none⟩) n c0) us ∧ Blk W X.heap.size 46 [.int .i64 c.inc, .int .i64 c.kind, .int .i64 c.unit, .int .i64 c.time] ∧ Only (fun j => j = g) X W) := Lib.hid (by
    rw [hW]
    exact ⟨hown.alloc _, hbx, Only.of_below (below_newH X _)⟩)
  clear hown hbx
  go_enter Tryd.func31, Tryd.ntmps31
  go_upto_region 1 with fail
  rw [← hW]
  clear hW
  go_wp2_with fail
  go_loopw [7] (fun iv Y => ∃ (k : Nat) (L : List UnitT), k ≤ n ∧ iv = .int .i64 k ∧ Snt us c k L ∧ OwnU Y base 44 (.slice (some ⟨g, 0, none⟩) n c0) L ∧ Blk Y X.heap.size 46 [.int .i64 c.inc, .int .i64 c.kind, .int .i64 c.unit, .int .i64 c.time] ∧ Only (fun j => j = g) X Y) (fun iv _ => n - (intOf iv).toNat)
  case atStart => exact ⟨0, us, Nat.zero_le _, rfl, Snt.start _ _, HW.out⟩
  case round =>
    obtain ⟨k, L, hk, rfl, h1, h2, h3, h4⟩ := hrel
    have HR := Lib.hid (And.intro h1 (And.intro h2 (And.intro h3 h4)))
    have q0 := h3.cell (j := 0) rfl
    have q2 := h3.cell (j := 2) rfl
    clear h1 h2 h3 h4
    by_cases hlt : k < n
    · have hlt' : (k : Int) < (n : Int) := by omega
      obtain ⟨u, hu⟩ : ∃ u, us[k]? = some u := ⟨_, List.getElem?_eq_getElem (by omega)⟩
      have HU := Lib.hid hu
      have hLu : L[k]? = some u := by rw [HR.out.1.2.2 k (Nat.le_refl _)]; exact hu
      have r0 := (OwnR.read cellsU_len HR.out.2.1 hLu (j := 0) rfl).1
      rw [Nat.add_zero] at r0
      have r3 := (OwnR.read cellsU_len HR.out.2.1 hLu (j := 3) rfl).1
      have z3 := (OwnR.read cellsU_len HR.out.2.1 hLu (j := 3) rfl).2
      have r7 := (OwnR.read cellsU_len HR.out.2.1 hLu (j := 7) rfl).1
      have z7 := (OwnR.read cellsU_len HR.out.2.1 hLu (j := 7) rfl).2
      have HLU := Lib.hid hLu
      clear hLu hu
      by_cases he : u.id = c.unit
      · have he' : (u.id == c.unit) = true := by simpa using he
        go_wp2_with fail
        go_quiet (fail)
        go_wp2_with fail
        go_roundw
        case rel => exact ⟨k + 1, L.set k (sentU u c.inc), by omega, by go_num, HR.out.1.put HU.out he, own_sent (HR.out.2.1.drewN _) HLU.out c.inc, (HR.out.2.2.1.other (by omega) _ _).other (by omega) _ _, ((HR.out.2.2.2.drewN _).setCell (a := ⟨g, k * 10 + 3, none⟩) (fun _ => rfl) _).setCell (a := ⟨g, k * 10 + 7, none⟩) (fun _ => rfl) _⟩
        case measure => simp [intOf]; omega
      · have he' : (u.id == c.unit) = false := by simpa using he
        go_wp2_with fail
        go_quiet (fail)
        go_wp2_with fail
        go_roundw
        case rel => exact ⟨k + 1, L, by omega, by go_num, HR.out.1.skip HU.out he, HR.out.2.1, HR.out.2.2.1, HR.out.2.2.2.drewN _⟩
        case measure => simp [intOf]; omega
    · obtain rfl : n = k := by omega
      go_wp2_with fail
      first | refine bodyPost_end (results_none rfl _ _ _) rfl ?_ | refine bodyPost_ret (v := .tuple #[]) (results_none rfl _ _ _) rfl ?_
      refine ⟨rfl, ?_, HR.out.2.2.2⟩
      have := HR.out.1
      rw [hn] at this
      rw [← this.done]
      exact HR.out.2.1
end
section
open Go.RowKit Go.Maps

set_option maxRecDepth 100000 in
set_option maxHeartbeats 4000000 in
theorem limS_any (X : World) (A : Option Addr) (n c : Nat) (hn : n ≤ c) (hc : c ≤ 9223372036854775807) : Calls Tryd.prog 42 #[.slice A n c] X fun e X' => e = .returned (.slice A (min n 64) c) ∧ X' = X := by
  by_cases h : n ≤ 64
  · rw [Nat.min_eq_left h]
    have h1 : min (n : Int) 64 = (n : Int) := by omega
    go_enter Tryd.func42, Tryd.ntmps42
    go_wp2_with fail
    go_ret
    exact ⟨rfl, rfl⟩
  · rw [Nat.min_eq_right (by omega)]
    have h1 : min (n : Int) 64 = 64 := by omega
    go_enter Tryd.func42, Tryd.ntmps42
    go_wp2_with fail
    go_ret
    exact ⟨rfl, rfl⟩

set_option maxRecDepth 100000 in
set_option maxHeartbeats 4000000 in
theorem limI_any (X : World) (A : Option Addr) (n c : Nat) (hn : n ≤ c) (hc : c ≤ 9223372036854775807) : Calls Tryd.prog 44 #[.slice A n c] X fun e X' => e = .returned (.slice A (min n 64) c) ∧ X' = X := by
  by_cases h : n ≤ 64
  · rw [Nat.min_eq_left h]
    have h1 : min (n : Int) 64 = (n : Int) := by omega
    go_enter Tryd.func44, Tryd.ntmps44
    go_wp2_with fail
    go_ret
    exact ⟨rfl, rfl⟩
  · rw [Nat.min_eq_right (by omega)]
    have h1 : min (n : Int) 64 = 64 := by omega
    go_enter Tryd.func44, Tryd.ntmps44
    go_wp2_with fail
    go_ret
    exact ⟨rfl, rfl⟩
end
section
open Go.RowKit Go.Maps

def RetSlU (w : World) (L : List SlotP) (e : Ending) (w' : World) : Prop :=
  ∃ (A : Option Addr) (c : Nat) (ss : List SlotT), e = .returned (.slice A ss.length c) ∧ SlotsAt w' w'.heap.size A ss ∧ SNodes w' w'.heap.size ss ∧ ss.map strip = L ∧ (∀ b o, A = some ⟨b, o, none⟩ → w.heap.size ≤ b) ∧ (∀ s ∈ ss, ∀ b o, s.nA = some ⟨b, o, none⟩ → w.heap.size ≤ b) ∧ Below w.heap.size w w'
theorem RecsAt.take {α : Type} {cs : α → List Value} {w : World} {B : Nat} {A : Option Addr} {xs : List α} (h : RecsAt cs w B A xs) (k : Nat) : RecsAt cs w B A (xs.take k) := fun j u hj => by
  refine h j u ?_
  rw [← List.take_append_drop k xs, List.flatMap_append, List.getElem?_append_left (List.getElem?_eq_some_iff.1 hj).1]
  exact hj
/-- the slots of an urgency among the first k. -/
def urgT (urg : Int) (ss : List SlotT) (k : Nat) : List SlotT := (ss.take k).filter (fun s => s.urg == urg)
theorem urgT_succ {urg : Int} {ss : List SlotT} {k : Nat} {s : SlotT} (h : ss[k]? = some s) : urgT urg ss (k + 1) = if s.urg == urg then urgT urg ss k ++ [s] else urgT urg ss k := by
  unfold urgT
  rw [take_snoc' h, List.filter_append]
  cases e : (s.urg == urg) <;> simp [List.filter, e]
theorem urgT_strip {urg : Int} {ss : List SlotT} : (urgT urg ss ss.length).map strip = (ss.map strip).filter (fun s => s.urg == urg) := by
  unfold urgT
  rw [List.take_length, List.filter_map]
  rfl
theorem urgT_mem {urg : Int} {ss : List SlotT} {k : Nat} {s : SlotT} (h : s ∈ urgT urg ss k) : s ∈ ss := List.mem_of_mem_take (List.mem_filter.1 h).1
theorem urgT_len (urg : Int) (ss : List SlotT) (k : Nat) : (urgT urg ss k).length ≤ k := by
  have h1 := List.length_filter_le (fun s : SlotT => s.urg == urg) (ss.take k)
  have h2 := List.length_take_le k ss
  unfold urgT
  omega
set_option maxRecDepth 100000 in
set_option maxHeartbeats 16000000 in
theorem slotsOf_any (A A1 A2 : Option Addr) (c c1 c2 : Nat) (xs : List IncT) (us : List UnitT) (ps : List Plan) (urg : Int) (w : World) (hi : IncsAt w w.heap.size A xs) (hnd : NodesAt w w.heap.size xs) (hwf : ∀ x ∈ xs, IncWf x) (hl : xs.length ≤ 19) (hsml : ∀ x ∈ xs, x.nodes.length ≤ 1000)
    (hu : UnitsAt w w.heap.size A1 us) (huw : ∀ u ∈ us, UnitWf u) (hul : us.length ≤ 65536) (hp : Plans w w.heap.size A2 ps) (hpl : ps.length ≤ 9223372036854775807) (hsm : smallP ps = true) (hsl : (slotsL xs us ps).length ≤ 65536) :
    Calls Tryd.prog 27 #[.slice A xs.length c, .slice A1 us.length c1, .slice A2 ps.length c2, .int .i64 urg] w (RetSlU w (slotsU xs us ps urg)) := by
  have HS := Lib.hid (slots_any A A1 A2 c c1 c2 xs us ps w hi hnd hwf hl hsml hu huw hul hp hpl hsm)
  clear hi hnd hwf hsml hu huw hp hsm
  go_enter Tryd.func27, Tryd.ntmps27
  go_wp2_with fail
  refine HS.out.mono ?_
  rintro e w1 ⟨A0, c0, ss, rfl, hst, hb⟩
  have hssl : ss.length ≤ 65536 := by
    have := congrArg List.length hst.strip
    rw [List.length_map] at this
    omega
  have HST := Lib.hid (And.intro hst hb)
  clear HS hst hb
  go_wp2_with fail
  go_loopw [9, 17] (fun v iv Y => ∃ k : Nat, k ≤ ss.length ∧ iv = .int .i64 k ∧ OwnSlot Y w1.heap.size 75 v (urgT urg ss k) ∧ Below w1.heap.size w1 Y) (fun _ iv _ => ss.length - (intOf iv).toNat)
  case atStart => exact ⟨0, Nat.zero_le _, rfl, OwnR.nil _ _ _, Below.refl _ _⟩
  case round =>
    obtain ⟨k, hk, rfl, hown, hb⟩ := hrel
    have hkl := urgT_len urg ss k
    by_cases hlt : k < ss.length
    · have hlt' : (k : Int) < (ss.length : Int) := by omega
      obtain ⟨s, hs⟩ : ∃ s, ss[k]? = some s := ⟨_, List.getElem?_eq_getElem hlt⟩
      have HU := Lib.hid (urgT_succ (urg := urg) hs)
      have hat : SlotsAt wr w1.heap.size A0 ss := by
        obtain ⟨A', c', e', h'⟩ := HST.out.1.own.sl
        injection e' with e1 _ _
        subst e1
        exact h'.below hb
      obtain ⟨bs, os, rfl, hbs, q0, q1, q2, q3, q4⟩ := slot_at hat hs
      have HBA := Lib.hid (hb.alloc hb.size (.cells #[.int .i64 s.inc, .int .i64 s.urg, .int .i64 s.since, .int .i64 s.kind, .slice s.nA s.nodes.length s.nc] 75))
      have hwz := hb.size
      replace hown := hown.alloc (.cells #[.int .i64 s.inc, .int .i64 s.urg, .int .i64 s.since, .int .i64 s.kind, .slice s.nA s.nodes.length s.nc] 75)
      clear hs hat hb
      by_cases he : s.urg = urg
      · have he' : (s.urg == urg) = true := by simpa using he
        have HE' := Lib.hid he'
        clear he
        go_wp2_with (at_builtin; refine wpList_append_rec _ rfl _ _ 66 rfl w1.heap.size 75 Tryd.underlying66 slot_info rfl (by omega) (by omega) cellsS_len _ _ (wr.alloc (.cells #[.int .i64 s.inc, .int .i64 s.urg, .int .i64 s.since, .int .i64 s.kind, .slice s.nA s.nodes.length s.nc] 75)) s (cellsS_one _) _ rfl rfl rfl hown _ rfl (by simp) (by omega) (by simp; omega) ?_; intro v1 w2 hown1 hg1)
        go_roundw
        case rel =>
          refine ⟨k + 1, by omega, by go_num, ?_, HBA.out.grown hg1 HBA.out.size (fun j hj => hown.ge_base _ hj)⟩
          rw [HU.out, HE'.out, if_pos rfl]
          exact hown1
        case measure => simp [intOf]; omega
      · have he' : (s.urg == urg) = false := by simpa using he
        have HE' := Lib.hid he'
        clear he
        go_wp2_with fail
        go_roundw
        case rel =>
          refine ⟨k + 1, by omega, by go_num, ?_, HBA.out⟩
          rw [HU.out, HE'.out]
          exact hown
        case measure => simp [intOf]; omega
    · obtain rfl : k = ss.length := by omega
      obtain ⟨A3, c3, rfl, hat⟩ := hown.sl
      have hcap := hown.caps
      have HLI := Lib.hid (limS_any wr A3 (urgT urg ss ss.length).length c3 hcap.2.1 hcap.2.2.1)
      have HF : Hid (RetSlU w (slotsU xs us ps urg) (.returned (.slice A3 (min (urgT urg ss ss.length).length 64) c3)) wr) := Lib.hid (by
        have hst := HST.out.1.kept_new hb
        refine ⟨A3, c3, (urgT urg ss ss.length).take 64, by rw [List.length_take, Nat.min_comm], hat.take 64, fun s hs => ?_, ?_, fun b o e => ?_, fun s hs b o e => ?_, HST.out.2.trans (hb.mono HST.out.2.size)⟩
        · have hm := urgT_mem (List.mem_of_mem_take hs)
          obtain ⟨A', c', e', h'⟩ := (hst.rows s hm).sl
          injection e' with e1 _ _
          rw [e1]
          exact h'
        · rw [List.map_take, urgT_strip, HST.out.1.strip]
          rfl
        · have := hown.ge_base b (by rw [e]; rfl)
          have := HST.out.2.size
          omega
        · have hm := urgT_mem (List.mem_of_mem_take hs)
          exact OwnV.ge_base (hst.rows s hm) b (by rw [e]; rfl))
      clear hat hcap
      go_wp2_with fail
      refine HLI.out.mono ?_
      rintro e X0 ⟨rfl, hX0⟩
      rw [hX0]
      clear hX0 X0 HLI
      go_wp2_with fail
      go_ret
      exact HF.out
end
section
open Go.RowKit Go.Maps

set_option maxRecDepth 100000 in
theorem cloneU_any (A : Option Addr) (c : Nat) (us : List UnitT) (w : World) (ha : UnitsAt w w.heap.size A us) (hl : us.length ≤ 65536) (hn : A = none → c = 0) :
    Calls Tryd.prog 26 #[.slice A us.length c] w (RetUnits w us) := by
  have HN := Lib.hid hn
  clear hn
  have hnil := fun (W : World) (a : Option Addr) (n c : Nat) => Lib.run_eql_slice_nil (P := Tryd.prog) W 27 44 a n c 0 0 Tryd.underlying27
  cases A with
  | none =>
    obtain rfl : us = [] := by
      have := Sl.nil_of_none ha
      have h2 := congrArg List.length this
      rw [flat_len cellsU_len] at h2
      exact List.eq_nil_of_length_eq_zero (by simp at h2; omega)
    obtain rfl := HN.out rfl
    go_enter Tryd.func26, Tryd.ntmps26
    go_wp2_with fail
    go_ret
    exact ⟨_, rfl, OwnR.nil _ _ _, Below.refl _ _⟩
  | some a =>
    obtain ⟨i0, hi, hz1, hz2, hz3⟩ := info_parts unit_info
    have hE0 : (w.alloc (.cells #[] 44)).ownsRow w.heap.size 44 10 (.slice (some ⟨w.heap.size, 0, none⟩) 0 0) 0 [] := by
      have := World.ownsRow_lit (base := w.heap.size) (e := 44) (size := 10) w #[] 0 (Nat.le_refl _) (by unfold maxLen; omega) (by simp)
      simpa using this
    have hb1 : Below w.heap.size w (w.alloc (.cells #[] 44)) := (Below.refl _ _).alloc (Nat.le_refl _) _
    have hs1 : Sl (w.alloc (.cells #[] 44)) w.heap.size (some a) (us.flatMap cellsU) := Sl.alloc ha (Nat.le_refl _) (.cells #[] 44)
    have hcells : ∀ j u, (us.flatMap cellsU)[j]? = some u → (w.alloc (.cells #[] 44)).cell? (a.add j) = some u := by
      intro j u hj
      obtain ⟨b, o, e, _, hc⟩ := hs1 j u hj
      injection e with e
      subst e
      rw [add_none]
      exact hc
    have hone : ∀ u ∈ us.flatMap cellsU, u.oneCell' = true := by
      intro u hu
      obtain ⟨e, _, he⟩ := List.mem_flatMap.1 hu
      exact cellsU_one e u he
    have HRES : Hid (∀ v' w', w'.ownsRow w.heap.size 44 10 v' (0 + us.length) ([] ++ us.flatMap cellsU) → (w.alloc (.cells #[] 44)).grownBy w' (some w.heap.size) → RetUnits w us (.returned v') w') := by
      show ∀ v' w', _ → _ → _
      intro v' w' hown hg
      rw [List.nil_append, Nat.zero_add] at hown
      exact ⟨v', rfl, hown, hb1.grown hg hb1.size (fun k e => by cases e; exact Nat.le_refl _)⟩
    have HC := Lib.hid hcells
    have HO := Lib.hid hone
    have HE0 := Lib.hid hE0
    have hfl : (us.flatMap cellsU).length = us.length * 10 := flat_len cellsU_len us
    clear hb1 hs1 hcells hone hE0
    go_enter Tryd.func26, Tryd.ntmps26
    go_wp2_with (at_builtin; refine wpList_append_own _ rfl (.tmp 5) (.tmp 6) 27 rfl w.heap.size 44 i0 (.agg #[.int .i64 0, .int .i64 0, .int .i64 0, .int .i64 0, .int .i64 0, .int .i64 0, .int .i64 0, .int .i64 0, .int .i64 0, .int .i64 0]) 10 80 Tryd.underlying27 hi hz1 hz2 hz3 rfl (by decide) _ 0 [] rfl HE0.out a us.length c (us.flatMap cellsU) rfl hfl HC.out HO.out (by unfold maxLen; omega) (by omega) (by simp) ?_; intro v' w' hown hg _)
    go_ret
    exact HRES.out _ _ hown hg
end
end Go.Proofs.YtimijjhdgihobaaDoor
