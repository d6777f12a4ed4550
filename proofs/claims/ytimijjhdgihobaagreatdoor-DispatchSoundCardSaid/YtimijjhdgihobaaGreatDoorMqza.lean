/-
  dispatch.slotsOf.
  slices.Clone at []api.Unit (lines of XEdges).
-/
import Derived.Test.YtimijjhdgihobaaGreatDoorMqz
namespace Go.Proofs.YtimijjhdgihobaaGreatDoor
section
open Go.RowKit Go.Maps

def RetSlU (w : World) (L : List SlotP) (e : Ending) (w' : World) : Prop :=
  ∃ (A : Option Addr) (c : Nat) (ss : List SlotT), e = .returned (.slice A ss.length c) ∧ SlotsAt w' w'.heap.size A ss ∧ SNodes w' w'.heap.size ss ∧ ss.map strip = L ∧ (∀ b o, A = some ⟨b, o, none⟩ → w.heap.size ≤ b) ∧ (∀ s ∈ ss, ∀ b o, s.nA = some ⟨b, o, none⟩ → w.heap.size ≤ b) ∧ Below w.heap.size w w'
theorem RecsAt.take {α : Type} {cs : α → List Value} {w : World} {B : Nat} {A : Option Addr} {xs : List α} (h : RecsAt cs w B A xs) (k : Nat) : RecsAt cs w B A (xs.take k) := fun j u hj => by
  refine h j u ?_
  rw [← List.take_append_drop k xs, List.flatMap_append, List.getElem?_append_left (List.getElem?_eq_some_iff.1 hj).1]
  exact hj
/-- the slots of an urgency among the first k. -/
def urgT (urg : Int) (ss : List SlotT) (k : Nat) : List SlotT := (ss.take k).filter (fun s => s.urg == urg)
theorem urgT_succ {urg : Int} {ss : List SlotT} {k : Nat} {s : SlotT} (h : ss[k]? = some s) : urgT urg ss (k + 1) = if s.urg == urg then urgT urg ss k ++ [s] else urgT urg ss k := by
  unfold urgT
  rw [take_snoc' h, List.filter_append]
  cases e : (s.urg == urg) <;> simp [List.filter, e]
theorem urgT_strip {urg : Int} {ss : List SlotT} : (urgT urg ss ss.length).map strip = (ss.map strip).filter (fun s => s.urg == urg) := by
  unfold urgT
  rw [List.take_length, List.filter_map]
  rfl
theorem urgT_mem {urg : Int} {ss : List SlotT} {k : Nat} {s : SlotT} (h : s ∈ urgT urg ss k) : s ∈ ss := List.mem_of_mem_take (List.mem_filter.1 h).1
theorem urgT_len (urg : Int) (ss : List SlotT) (k : Nat) : (urgT urg ss k).length ≤ k := by
  have h1 := List.length_filter_le (fun s : SlotT => s.urg == urg) (ss.take k)
  have h2 := List.length_take_le k ss
  unfold urgT
  omega
set_option maxRecDepth 100000 in
set_option maxHeartbeats 16000000 in
theorem slotsOf_any (A A1 A2 : Option Addr) (c c1 c2 : Nat) (xs : List IncT) (us : List UnitT) (ps : List Plan) (urg : Int) (w : World) (hi : IncsAt w w.heap.size A xs) (hnd : NodesAt w w.heap.size xs) (hwf : ∀ x ∈ xs, IncWf x) (hl : xs.length ≤ 19) (hsml : ∀ x ∈ xs, x.nodes.length ≤ 1000)
    (hu : UnitsAt w w.heap.size A1 us) (huw : ∀ u ∈ us, UnitWf u) (hul : us.length ≤ 65536) (hp : Plans w w.heap.size A2 ps) (hpl : ps.length ≤ 9223372036854775807) (hsm : smallP ps = true) (hsl : (slotsL xs us ps).length ≤ 65536) :
    Calls Tryz.prog 39 #[.slice A xs.length c, .slice A1 us.length c1, .slice A2 ps.length c2, .int .i64 urg] w (RetSlU w (slotsU xs us ps urg)) := by
  have HS := Lib.hid (slots_any A A1 A2 c c1 c2 xs us ps w hi hnd hwf hl hsml hu huw hul hp hpl hsm)
  clear hi hnd hwf hsml hu huw hp hsm
  go_enter Tryz.func39, Tryz.ntmps39
  go_wp2_with fail
  refine HS.out.mono ?_
  rintro e w1 ⟨A0, c0, ss, rfl, hst, hb⟩
  have hssl : ss.length ≤ 65536 := by
    have := congrArg List.length hst.strip
    rw [List.length_map] at this
    omega
  have HST := Lib.hid (And.intro hst hb)
  clear HS hst hb
  go_wp2_with fail
  go_loopw [9, 17] (fun v iv Y => ∃ k : Nat, k ≤ ss.length ∧ iv = .int .i64 k ∧ OwnSlot Y w1.heap.size 91 v (urgT urg ss k) ∧ Below w1.heap.size w1 Y) (fun _ iv _ => ss.length - (intOf iv).toNat)
  case atStart => exact ⟨0, Nat.zero_le _, rfl, OwnR.nil _ _ _, Below.refl _ _⟩
  case round =>
    obtain ⟨k, hk, rfl, hown, hb⟩ := hrel
    have hkl := urgT_len urg ss k
    by_cases hlt : k < ss.length
    · have hlt' : (k : Int) < (ss.length : Int) := by omega
      obtain ⟨s, hs⟩ : ∃ s, ss[k]? = some s := ⟨_, List.getElem?_eq_getElem hlt⟩
      have HU := Lib.hid (urgT_succ (urg := urg) hs)
      have hat : SlotsAt wr w1.heap.size A0 ss := by
        obtain ⟨A', c', e', h'⟩ := HST.out.1.own.sl
        injection e' with e1 _ _
        subst e1
        exact h'.below hb
      obtain ⟨bs, os, rfl, hbs, q0, q1, q2, q3, q4⟩ := slot_at hat hs
      have HBA := Lib.hid (hb.alloc hb.size (.cells #[.int .i64 s.inc, .int .i64 s.urg, .int .i64 s.since, .int .i64 s.kind, .slice s.nA s.nodes.length s.nc] 91))
      have hwz := hb.size
      replace hown := hown.alloc (.cells #[.int .i64 s.inc, .int .i64 s.urg, .int .i64 s.since, .int .i64 s.kind, .slice s.nA s.nodes.length s.nc] 91)
      clear hs hat hb
      by_cases he : s.urg = urg
      · have he' : (s.urg == urg) = true := by simpa using he
        have HE' := Lib.hid he'
        clear he
        go_wp2_with (at_builtin; refine wpList_append_rec _ rfl _ _ 85 rfl w1.heap.size 91 Tryz.underlying85 slot_info rfl (by omega) (by omega) cellsS_len _ _ (wr.alloc (.cells #[.int .i64 s.inc, .int .i64 s.urg, .int .i64 s.since, .int .i64 s.kind, .slice s.nA s.nodes.length s.nc] 91)) s (cellsS_one _) _ rfl rfl rfl hown _ rfl (by simp) (by omega) (by simp; omega) ?_; intro v1 w2 hown1 hg1)
        go_roundw
        case rel =>
          refine ⟨k + 1, by omega, by go_num, ?_, HBA.out.grown hg1 HBA.out.size (fun j hj => hown.ge_base _ hj)⟩
          rw [HU.out, HE'.out, if_pos rfl]
          exact hown1
        case measure => simp [intOf]; omega
      · have he' : (s.urg == urg) = false := by simpa using he
        have HE' := Lib.hid he'
        clear he
        go_wp2_with fail
        go_roundw
        case rel =>
          refine ⟨k + 1, by omega, by go_num, ?_, HBA.out⟩
          rw [HU.out, HE'.out]
          exact hown
        case measure => simp [intOf]; omega
    · obtain rfl : k = ss.length := by omega
      obtain ⟨A3, c3, rfl, hat⟩ := hown.sl
      have hcap := hown.caps
      have HLI := Lib.hid (limS_any wr A3 (urgT urg ss ss.length).length c3 hcap.2.1 hcap.2.2.1)
      have HF : Hid (RetSlU w (slotsU xs us ps urg) (.returned (.slice A3 (min (urgT urg ss ss.length).length 64) c3)) wr) := Lib.hid (by
        have hst := HST.out.1.kept_new hb
        refine ⟨A3, c3, (urgT urg ss ss.length).take 64, by rw [List.length_take, Nat.min_comm], hat.take 64, fun s hs => ?_, ?_, fun b o e => ?_, fun s hs b o e => ?_, HST.out.2.trans (hb.mono HST.out.2.size)⟩
        · have hm := urgT_mem (List.mem_of_mem_take hs)
          obtain ⟨A', c', e', h'⟩ := (hst.rows s hm).sl
          injection e' with e1 _ _
          rw [e1]
          exact h'
        · rw [List.map_take, urgT_strip, HST.out.1.strip]
          rfl
        · have := hown.ge_base b (by rw [e]; rfl)
          have := HST.out.2.size
          omega
        · have hm := urgT_mem (List.mem_of_mem_take hs)
          exact OwnV.ge_base (hst.rows s hm) b (by rw [e]; rfl))
      clear hat hcap
      go_wp2_with fail
      refine HLI.out.mono ?_
      rintro e X0 ⟨rfl, hX0⟩
      rw [hX0]
      clear hX0 X0 HLI
      go_wp2_with fail
      go_ret
      exact HF.out
end
section
open Go.RowKit Go.Maps

set_option maxRecDepth 100000 in
theorem cloneU_any (A : Option Addr) (c : Nat) (us : List UnitT) (w : World) (ha : UnitsAt w w.heap.size A us) (hl : us.length ≤ 65536) (hn : A = none → c = 0) :
    Calls Tryz.prog 38 #[.slice A us.length c] w (RetUnits w us) := by
  have HN := Lib.hid hn
  clear hn
  have hnil := fun (W : World) (a : Option Addr) (n c : Nat) => Lib.run_eql_slice_nil (P := Tryz.prog) W 27 43 a n c 0 0 Tryz.underlying27
  cases A with
  | none =>
    obtain rfl : us = [] := by
      have := Sl.nil_of_none ha
      have h2 := congrArg List.length this
      rw [flat_len cellsU_len] at h2
      exact List.eq_nil_of_length_eq_zero (by simp at h2; omega)
    obtain rfl := HN.out rfl
    go_enter Tryz.func38, Tryz.ntmps38
    go_wp2_with fail
    go_ret
    exact ⟨_, rfl, OwnR.nil _ _ _, Below.refl _ _⟩
  | some a =>
    obtain ⟨i0, hi, hz1, hz2, hz3⟩ := info_parts unit_info
    have hE0 : (w.alloc (.cells #[] 43)).ownsRow w.heap.size 43 10 (.slice (some ⟨w.heap.size, 0, none⟩) 0 0) 0 [] := by
      have := World.ownsRow_lit (base := w.heap.size) (e := 43) (size := 10) w #[] 0 (Nat.le_refl _) (by unfold maxLen; omega) (by simp)
      simpa using this
    have hb1 : Below w.heap.size w (w.alloc (.cells #[] 43)) := (Below.refl _ _).alloc (Nat.le_refl _) _
    have hs1 : Sl (w.alloc (.cells #[] 43)) w.heap.size (some a) (us.flatMap cellsU) := Sl.alloc ha (Nat.le_refl _) (.cells #[] 43)
    have hcells : ∀ j u, (us.flatMap cellsU)[j]? = some u → (w.alloc (.cells #[] 43)).cell? (a.add j) = some u := by
      intro j u hj
      obtain ⟨b, o, e, _, hc⟩ := hs1 j u hj
      injection e with e
      subst e
      rw [add_none]
      exact hc
    have hone : ∀ u ∈ us.flatMap cellsU, u.oneCell' = true := by
      intro u hu
      obtain ⟨e, _, he⟩ := List.mem_flatMap.1 hu
      exact cellsU_one e u he
    have HRES : Hid (∀ v' w', w'.ownsRow w.heap.size 43 10 v' (0 + us.length) ([] ++ us.flatMap cellsU) → (w.alloc (.cells #[] 43)).grownBy w' (some w.heap.size) → RetUnits w us (.returned v') w') := by
      show ∀ v' w', _ → _ → _
      intro v' w' hown hg
      rw [List.nil_append, Nat.zero_add] at hown
      exact ⟨v', rfl, hown, hb1.grown hg hb1.size (fun k e => by cases e; exact Nat.le_refl _)⟩
    have HC := Lib.hid hcells
    have HO := Lib.hid hone
    have HE0 := Lib.hid hE0
    have hfl : (us.flatMap cellsU).length = us.length * 10 := flat_len cellsU_len us
    clear hb1 hs1 hcells hone hE0
    go_enter Tryz.func38, Tryz.ntmps38
    go_wp2_with (at_builtin; refine wpList_append_own _ rfl (.tmp 5) (.tmp 6) 27 rfl w.heap.size 43 i0 (.agg #[.int .i64 0, .int .i64 0, .int .i64 0, .int .i64 0, .int .i64 0, .int .i64 0, .int .i64 0, .int .i64 0, .int .i64 0, .int .i64 0]) 10 80 Tryz.underlying27 hi hz1 hz2 hz3 rfl (by decide) _ 0 [] rfl HE0.out a us.length c (us.flatMap cellsU) rfl hfl HC.out HO.out (by unfold maxLen; omega) (by omega) (by simp) ?_; intro v' w' hown hg _)
    go_ret
    exact HRES.out _ _ hown hg
end
end Go.Proofs.YtimijjhdgihobaaGreatDoor
