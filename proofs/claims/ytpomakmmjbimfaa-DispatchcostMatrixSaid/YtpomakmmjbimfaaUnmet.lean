/-
  responseplan.Unmet returns a new slice with the plain function's list, for every two lists of integers shorter than 2^40; nothing that was there changes.
-/
import Derived.Test.YtpomakmmjbimfaaProg
import Derived.Test.YtpomakmmjbimfaaPlainA
import Derived.WalkLawsBesides
namespace Go.Proofs.Ytpomakmmjbimfaa
open Go.RowKit Go.Maps

theorem int_info : (Try.prog.info? 3).map (fun i => (i.zero, i.size, i.bytes)) = some (some (.int .i64 0), 1, 8) := by kernel_rfl
theorem int_zero (w : World) : (zeroValue 3).run Try.prog w = .ok (.int .i64 0) w := by kernel_rfl

/-- the call returned a slice of its own that holds zs; what was there is as it was. -/
def RetI (ty : TypeId) (w : World) (zs : List Int) (e : Ending) (w' : World) : Prop := ∃ v, e = .returned v ∧ OwnI w' w.heap.size ty v zs ∧ Below w.heap.size w w'

theorem wf_of_get {zs : List Int} (h : ∀ z ∈ zs, (Lit.int .i64 z).wf = true) {k : Nat} {z : Int} (hz : zs[k]? = some z) : (Lit.int .i64 z).wf = true := h z (List.mem_of_getElem? hz)

set_option maxRecDepth 100000 in
set_option maxHeartbeats 1000000 in
theorem unmet_any (A C : Option Addr) (c d : Nat) (ws hs : List Int) (w : World) (ha : Sl w w.heap.size A (ws.map (Value.int .i64))) (hb : Sl w w.heap.size C (hs.map (Value.int .i64)))
    (wa : ∀ z ∈ ws, (Lit.int .i64 z).wf = true) (wb : ∀ z ∈ hs, (Lit.int .i64 z).wf = true) (na : ws.length ≤ 1099511627776) (nb : hs.length ≤ 1099511627776) :
    Calls Try.prog 36 #[.slice A ws.length c, .slice C hs.length d] w (RetI 3 w (unmet ws hs)) := by
  have hmm := @run_makeMap Try.prog
  go_enter Try.func36, Try.ntmps36
  go_wp2_with fail
  go_loopw [17] (fun i wr => ∃ k : Nat, k ≤ hs.length ∧ i = .int .i64 k ∧ MapI Try.prog 3 3 wr w.heap.size k (cnt (hs.take k)) ∧ Below w.heap.size w wr) (fun i _ => hs.length - (intOf i).toNat)
  case atStart => exact ⟨0, Nat.zero_le _, rfl, MapI.made, (Below.refl _ _).alloc (Nat.le_refl _) _⟩
  case round =>
    obtain ⟨k, hk, rfl, hown, hnx⟩ := hrel
    by_cases hlt : k < hs.length
    · obtain ⟨z, hz⟩ : ∃ z, hs[k]? = some z := ⟨hs[k], by simp⟩
      obtain ⟨b, o, rfl, hbb, hcell⟩ := hb.int hz
      have hc2 : wr.cell? ⟨b, o + k, none⟩ = some (.int .i64 z) := (hnx.cell (p := ⟨b, o + k, none⟩) hbb).trans hcell
      have hwz := wf_of_get wb hz
      have HZ := Lib.hid hz
      clear hz hcell
      have hcb := cnt_bd (hs.take k) z
      have hcl : (hs.take k).length ≤ k := List.length_take_le _ _
      go_wp2_with (first
        | (at_lookup; refine wpList_look_int _ rfl _ _ 77 rfl 3 3 Try.underlying3 Try.underlying77 Try.underlying3 (int_zero _) w.heap.size k _ rfl hown z rfl hwz ?_; intro u hu; have hub : 0 ≤ u ∧ u ≤ k := (by omega); have HU := Lib.hid hu; clear hu)
        | (at_mapUpdate; refine wpList_put_int _ rfl _ _ _ 77 rfl 3 3 Try.underlying3 Try.underlying77 Try.underlying3 w.heap.size k _ rfl hown (by omega) z (u + 1) rfl rfl hwz (WalkArith.wf_i64 (by omega)) ?_; intro w1 hown1 hg1))
      go_roundw
      case rel =>
        refine ⟨k + 1, by omega, by go_num, ?_, hnx.grown hg1 hnx.size (fun j hj => by cases hj; exact Nat.le_refl _)⟩
        rw [take_snoc HZ.out, cnt_snoc, ← HU.out]
        exact hown1
      case measure => simp [intOf]; omega
    · have hkk : k = hs.length := by omega
      subst hkk
      rw [List.take_length] at hown
      have hbm := pass2_bd hs
      have HBM := Lib.hid hbm
      clear hbm
      have hsz0 := hown.lt
      go_wp2_with fail
      obtain ⟨w1, rfl⟩ : ∃ w1 : World, w1 = wr := ⟨_, rfl⟩
      go_loopw [8, 28] (fun v i wr => ∃ k : Nat, k ≤ ws.length ∧ i = .int .i64 k ∧ MapI Try.prog 3 3 wr w.heap.size (hs.length + k) (pass2 hs (ws.take k)).1 ∧ OwnI wr (w.heap.size + 1) 3 v (pass2 hs (ws.take k)).2 ∧ Below w.heap.size w wr ∧ w.heap.size + 1 ≤ wr.heap.size) (fun _ i _ => ws.length - (intOf i).toNat)
      case atStart => exact ⟨0, Nat.zero_le _, rfl, hown, OwnV.nil _ _ _, hnx, hsz0⟩
      case round =>
        clear hown hnx hsz0 hlt hk
        obtain ⟨k, hk, rfl, hown, hrow, hnx, hsz⟩ := hrel
        by_cases hlt : k < ws.length
        · obtain ⟨z, hz⟩ : ∃ z, ws[k]? = some z := ⟨ws[k], by simp⟩
          obtain ⟨b, o, rfl, hbb, hcell⟩ := ha.int hz
          have hc2 : wr.cell? ⟨b, o + k, none⟩ = some (.int .i64 z) := (hnx.cell (p := ⟨b, o + k, none⟩) hbb).trans hcell
          have hwz := wf_of_get wa hz
          have hcl : (ws.take k).length ≤ k := List.length_take_le _ _
          have hcb := (HBM.out (ws.take k)).1 z
          have hrl := (HBM.out (ws.take k)).2
          have HST : Hid (pass2 hs (ws.take (k + 1)) = step2 (pass2 hs (ws.take k)) z) := by
            rw [take_snoc hz]
            exact pass2_snoc _ _ _
          clear hz hcell
          by_cases hpos : 0 < (pass2 hs (ws.take k)).1 z
          · go_wp2_with (first
              | (at_lookup; refine wpList_look_int _ rfl _ _ 77 rfl 3 3 Try.underlying3 Try.underlying77 Try.underlying3 (int_zero _) w.heap.size _ _ rfl hown z rfl hwz ?_; intro u hu; have hub : 0 < u ∧ u ≤ hs.length := (by omega); have HU := Lib.hid hu; clear hu)
              | (at_mapUpdate; refine wpList_put_int _ rfl _ _ _ 77 rfl 3 3 Try.underlying3 Try.underlying77 Try.underlying3 w.heap.size _ _ rfl hown (by omega) z (u - 1) rfl rfl hwz (WalkArith.wf_i64 (by omega)) ?_; intro w2 hown2 hg2))
            go_roundw
            case rel =>
              refine ⟨k + 1, by omega, by go_num, ?_, ?_, hnx.grown hg2 hnx.size (fun j hj => by cases hj; exact Nat.le_refl _), Nat.le_trans hsz hg2.size⟩
              · rw [HST.out, step2_yes hpos, ← HU.out]
                exact hown2
              · rw [HST.out, step2_yes hpos]
                exact hrow.kept_map hg2 (by omega)
            case measure => simp [intOf]; omega
          · go_wp2_with (first
              | (at_lookup; refine wpList_look_int _ rfl _ _ 77 rfl 3 3 Try.underlying3 Try.underlying77 Try.underlying3 (int_zero _) w.heap.size _ _ rfl hown z rfl hwz ?_; intro u hu; have hub : 0 ≤ u ∧ u ≤ 0 := (by omega); have HU := Lib.hid hu; clear hu)
              | (at_builtin; refine wpList_append_int _ rfl _ _ 28 rfl (w.heap.size + 1) 3 Try.underlying28 int_info _ _ wr z rfl rfl hrow rfl (by omega) hsz ?_; intro v2 w2 hrow2 hg2))
            go_roundw
            case rel =>
              refine ⟨k + 1, by omega, by go_num, ?_, ?_, hnx.grown hg2 hnx.size (fun j hj => ?_), Nat.le_trans hsz hg2.size⟩
              · rw [HST.out, step2_no hpos]
                exact (hown.kept hg2 (fun e => by have := hrow.ge_base _ e.symm; omega)).mono (by omega)
              · rw [HST.out, step2_no hpos]
                exact hrow2
              · have := hrow.ge_base _ hj
                omega
            case measure => simp [intOf]; omega
        · have hkk : k = ws.length := by omega
          subst hkk
          rw [List.take_length] at hown hrow
          have hcb := (HBM.out ws).1
          have hrl := (HBM.out ws).2
          have HCB := Lib.hid hcb
          clear hcb
          obtain ⟨A2, c2, hv2, _⟩ := hrow.sl
          rw [hv2] at hrow ⊢
          generalize hp : pass2 hs ws = pp at *
          obtain ⟨g, rest⟩ := pp
          have HP : Hid (unmet ws hs = (pass3 g rest).2) := by show _ = _; unfold unmet; rw [hp]
          clear hp hv2
          simp only at hown hrow hrl ⊢
          have hsz3 : ∀ j, (Value.slice A2 rest.length c2).ownBlock = some j → j < wr.heap.size := hrow.lt_size
          go_wp2_with fail
          obtain ⟨w3, rfl⟩ : ∃ w3 : World, w3 = wr := ⟨_, rfl⟩
          go_loopw [11, 47] (fun v i wr => ∃ k : Nat, k ≤ rest.length ∧ i = .int .i64 k ∧ MapI Try.prog 3 3 wr w.heap.size (hs.length + ws.length + k) (pass3 g (rest.take k)).1 ∧ OwnI wr (w.heap.size + 1) 3 (.slice A2 rest.length c2) rest ∧ OwnI wr w3.heap.size 3 v (pass3 g (rest.take k)).2 ∧ Below w.heap.size w wr ∧ w3.heap.size ≤ wr.heap.size) (fun _ i _ => rest.length - (intOf i).toNat)
          case atStart => exact ⟨0, Nat.zero_le _, rfl, hown, hrow, OwnV.nil _ _ _, hnx, Nat.le_refl _⟩
          case round =>
            clear hown hrow hnx hlt hk
            have HSZ3 := Lib.hid hsz3
            clear hsz3
            obtain ⟨k, hk, rfl, hown, hrow, hout, hnx, hsz3⟩ := hrel
            by_cases hlt : k < rest.length
            · obtain ⟨z, hz⟩ : ∃ z, rest[k]? = some z := ⟨rest[k], by simp⟩
              obtain ⟨b, o, rfl, hcell⟩ := hrow.cell hz
              have hcl : (rest.take k).length ≤ k := List.length_take_le _ _
              have hp3 := pass3_bd g hs.length HCB.out (rest.take k)
              have hcb := hp3.1 2
              have hrl3 := hp3.2
              have HST : Hid (pass3 g (rest.take (k + 1)) = step3 (pass3 g (rest.take k)) z) := by
                rw [take_snoc hz]
                exact pass3_snoc _ _ _
              clear hz hp3
              by_cases h1 : z = 1
              · subst h1
                by_cases hpos : 0 < (pass3 g (rest.take k)).1 2
                · go_wp2_with (first
                    | (at_lookup; refine wpList_look_int _ rfl _ _ 77 rfl 3 3 Try.underlying3 Try.underlying77 Try.underlying3 (int_zero _) w.heap.size _ _ rfl hown 2 rfl rfl ?_; intro u hu; have hub : 0 < u ∧ u ≤ hs.length := (by omega); have HU := Lib.hid hu; clear hu)
                    | (at_mapUpdate; refine wpList_put_int _ rfl _ _ _ 77 rfl 3 3 Try.underlying3 Try.underlying77 Try.underlying3 w.heap.size _ _ rfl hown (by omega) 2 (u - 1) rfl rfl rfl (WalkArith.wf_i64 (by omega)) ?_; intro w4 hown4 hg4))
                  go_roundw
                  case rel =>
                    refine ⟨k + 1, by omega, by go_num, ?_, ?_, ?_, hnx.grown hg4 hnx.size (fun j hj => by cases hj; exact Nat.le_refl _), Nat.le_trans hsz3 hg4.size⟩
                    · rw [HST.out, step3_yes ⟨rfl, hpos⟩, ← HU.out]
                      exact hown4
                    · exact hrow.kept_map hg4 (by omega)
                    · rw [HST.out, step3_yes ⟨rfl, hpos⟩]
                      exact hout.kept_map hg4 (by omega)
                  case measure => simp [intOf]; omega
                · go_wp2_with (first
                    | (at_lookup; refine wpList_look_int _ rfl _ _ 77 rfl 3 3 Try.underlying3 Try.underlying77 Try.underlying3 (int_zero _) w.heap.size _ _ rfl hown 2 rfl rfl ?_; intro u hu; have hub : 0 ≤ u ∧ u ≤ 0 := (by omega); have HU := Lib.hid hu; clear hu)
                    | (at_builtin; refine wpList_append_int _ rfl _ _ 28 rfl w3.heap.size 3 Try.underlying28 int_info _ _ wr 1 rfl rfl hout rfl (by omega) hsz3 ?_; intro v4 w4 hout4 hg4))
                  go_roundw
                  case rel =>
                    refine ⟨k + 1, by omega, by go_num, ?_, ?_, ?_, hnx.grown hg4 hnx.size (fun j hj => ?_), Nat.le_trans hsz3 hg4.size⟩
                    · rw [HST.out, step3_no (fun h => hpos h.2)]
                      exact (hown.kept hg4 (fun e => by have := hout.ge_base _ e.symm; omega)).mono (by omega)
                    · exact hrow.kept_far HSZ3.out hg4 (fun j hj => hout.ge_base j hj)
                    · rw [HST.out, step3_no (fun h => hpos h.2)]
                      exact hout4
                    · have := hout.ge_base _ hj
                      omega
                  case measure => simp [intOf]; omega
              · have hz1 : (z == 1) = false := by simp [h1]
                go_wp2_with (at_builtin; refine wpList_append_int _ rfl _ _ 28 rfl w3.heap.size 3 Try.underlying28 int_info _ _ wr z rfl rfl hout rfl (by omega) hsz3 ?_; intro v4 w4 hout4 hg4)
                go_roundw
                case rel =>
                  refine ⟨k + 1, by omega, by go_num, ?_, ?_, ?_, hnx.grown hg4 hnx.size (fun j hj => ?_), Nat.le_trans hsz3 hg4.size⟩
                  · rw [HST.out, step3_no (fun h => h1 h.1)]
                    exact (hown.kept hg4 (fun e => by have := hout.ge_base _ e.symm; omega)).mono (by omega)
                  · exact hrow.kept_far HSZ3.out hg4 (fun j hj => hout.ge_base j hj)
                  · rw [HST.out, step3_no (fun h => h1 h.1)]
                    exact hout4
                  · have := hout.ge_base _ hj
                    omega
                case measure => simp [intOf]; omega
            · have hkk : k = rest.length := by omega
              subst hkk
              rw [List.take_length] at hout
              go_wp2_with fail
              go_ret
              refine ⟨_, rfl, ?_, hnx⟩
              rw [HP.out]
              exact hout.base_le (by omega)
end Go.Proofs.Ytpomakmmjbimfaa
