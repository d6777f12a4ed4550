/-
  samaritanref31.Most returns the plain function's number, for lists of up to 60 integers; nothing that was there changes.
-/
import Derived.Test.YtfojdodeokdanaaLeft
import Derived.Test.YtfojdodeokdanaaPlainC
import Derived.Test.YtfojdodeokdanaaMemB
import Derived.Deep.RegionLaw
namespace Go.Proofs.Ytfojdodeokdanaa
open Go.RowKit Go.Maps

theorem mostTo_le (h : Int) (ws : List Int) (b0 : Nat) (m : List Int → Nat) (n : Nat) (hb : b0 ≤ n) (hm : ∀ l, m l + 1 ≤ n) (k : Nat) : mostTo h ws b0 m k ≤ n := by
  induction k with
  | zero => exact hb
  | succ k ih =>
    simp only [mostTo]
    split
    · have := hm (ws.eraseIdx k)
      omega
    · exact ih
theorem most_le (hs : List Int) : ∀ ws, most ws hs ≤ hs.length := by
  induction hs with
  | nil => intro ws; simp [most]
  | cons h t ih =>
    intro ws
    exact mostTo_le _ _ _ _ _ (by have := ih ws; simp; omega) (fun l => by have := ih l; simp; omega) _

theorem int_size (w : World) : (sizeOf 3).run Try.prog w = .ok 1 w := by kernel_rfl

set_option maxRecDepth 100000 in
set_option maxHeartbeats 1000000 in
theorem most_any (hs : List Int) : ∀ (ws : List Int) (A C : Option Addr) (c d : Nat) (w : World), Sl w w.heap.size A (ws.map (Value.int .i64)) → Sl w w.heap.size C (hs.map (Value.int .i64)) →
    ws.length ≤ c → hs.length ≤ d → (A = none → c = 0) → ws.length ≤ 60 → hs.length ≤ 60 → c ≤ 9223372036854775807 → d ≤ 9223372036854775807 →
    Calls Try.prog 15 #[.slice A ws.length c, .slice C hs.length d] w fun e w' => e = .returned (.int .i64 (most ws hs)) ∧ Below w.heap.size w w' := by
  induction hs with
  | nil =>
    intro ws A C c d w ha hb hc hd hAc hl1 hl2 hcm hdm
    go_enter Try.func15, Try.ntmps15
    go_wp2_with fail
    go_ret
    exact ⟨rfl, Below.refl _ _⟩
  | cons h t ih =>
    intro ws A C c d w ha hb hc hd hAc hl1 hl2 hcm hdm
    have IH := Lib.hid ih
    clear ih
    simp only [List.length_cons] at hd hl2 ⊢
    obtain ⟨b, o, rfl, hbb, hcell⟩ := hb.int (j := 0) (z := h) rfl
    rw [Nat.add_zero] at hcell
    have hne : (((t.length : Int) + 1) == 0) = false := by simp; omega
    have hdd : 0 < ((h :: t).map (Value.int .i64)).length → 0 < d := by simp; omega
    go_enter Try.func15, Try.ntmps15
    go_wp2_with (refine wpList_cut _ rfl (.tmp 13) (.const (.int .i64 1)) 24 rfl 3 Try.underlying24 rfl (int_size _) _ _ _ 1 rfl rfl (by omega) _ _ hb (by simp; omega) ?_; intro A1 c1 hA1 hc1 hc1' hn1 hn1'; rw [Nat.add_sub_cancel])
    refine (IH.out ws A A1 c c1 w ha hA1 hc (by omega) hAc hl1 (by omega) hcm (by omega)).mono ?_
    rintro e w1 ⟨rfl, hb1⟩
    have HA1 := Lib.hid hA1
    have HB1 := Lib.hid hb1
    clear hA1 hb1 hn1 hn1' hdd
    have hm0 := most_le t ws
    go_wp2_with fail
    go_loopw [5, 6] (fun bv i wr => ∃ k : Nat, k ≤ ws.length ∧ i = .int .i64 k ∧ bv = .int .i64 (mostTo h ws (most ws t) (fun l => most l t) k) ∧ Below w.heap.size w wr) (fun _ i _ => ws.length - (intOf i).toNat)
    case atStart => exact ⟨0, Nat.zero_le _, rfl, rfl, HB1.out⟩
    case round =>
      obtain ⟨k, hk, rfl, rfl, hnx⟩ := hrel
      have hML := mostTo_le h ws (most ws t) (fun l => most l t) (t.length + 1) (by omega) (fun l => by have := most_le t l; omega) k
      obtain ⟨M, hM⟩ : ∃ M, M = mostTo h ws (most ws t) (fun l => most l t) k := ⟨_, rfl⟩
      rw [← hM] at hML ⊢
      have HM := Lib.hid hM
      clear hM
      by_cases hlt : k < ws.length
      · obtain ⟨x, hx⟩ : ∃ x, ws[k]? = some x := ⟨ws[k], by simp⟩
        obtain ⟨b2, o2, rfl, hbb2, hcell2⟩ := ha.int hx
        have hc1 : wr.cell? ⟨b, o, none⟩ = some (.int .i64 h) := (hnx.cell (p := ⟨b, o, none⟩) hbb).trans hcell
        have hc2 : wr.cell? ⟨b2, o2 + k, none⟩ = some (.int .i64 x) := (hnx.cell (p := ⟨b2, o2 + k, none⟩) hbb2).trans hcell2
        have HX := Lib.hid hx
        have hti : (0 : Int) < (t.length : Int) + 1 := by omega
        clear hx
        cases hsat : satB h x
        · go_wp2_with fail
          go_quiet ((go_at_call 11; refine Calls.quiet_of_same ((does_any _ _ _).mono fun _ _ q => ⟨q.1, q.2.symm⟩)))
          go_wp2_with fail
          go_roundw
          case rel =>
            refine ⟨k + 1, by omega, by go_num, ?_, below_drewN hnx nq⟩
            have hg : ws.getD k 0 = x := by simp [HX.out]
            simp only [mostTo, hg, hsat]
            simp [HM.out]
          case measure => simp [intOf]; omega
        · go_wp2_with fail
          go_quiet ((go_at_call 11; refine Calls.quiet_of_same ((does_any _ _ _).mono fun _ _ q => ⟨q.1, q.2.symm⟩)))
          go_wp2_with fail
          have hk1 : (k : Int) ≤ (c : Int) := by omega
          have hk2 : (k : Int) + 1 ≤ (ws.length : Int) := by omega
          have hin := ha.below hnx
          have hin1 : Sl wr w.heap.size (some ⟨b2, o2, none⟩) ((ws.take k).map (Value.int .i64)) := by
            rw [List.map_take]
            exact hin.take k
          have two : ((c = k + 1) = True ∧ Sl w w.heap.size (some ⟨b2, o2, none⟩) ((ws.drop (k + 1)).map (Value.int .i64))) ∨ ((c = k + 1) = False ∧ Sl w w.heap.size (some ⟨b2, o2 + (k + 1), none⟩) ((ws.drop (k + 1)).map (Value.int .i64))) := by
            by_cases hck : c = k + 1
            · left
              refine ⟨eq_true hck, ?_⟩
              rw [List.drop_eq_nil_of_le (by omega)]
              exact Sl.empty
            · right
              refine ⟨eq_false hck, ?_⟩
              have := ha.cut (k := k + 1) (c := c) (by simp; omega)
              rw [if_neg hck] at this
              rw [List.map_drop]
              simpa [add_none] using this
          have hE0 : OwnI ((wr.drewN (nq + 1)).alloc (.cells #[] 3)) w.heap.size 3 (.slice (some ⟨wr.heap.size, 0, none⟩) 0 0) [] := OwnV.lit (wr.drewN (nq + 1)) w.heap.size 3 [] (f := Value.int .i64) rfl hnx.size (by simp) #[] rfl
          have hin2 : Sl ((wr.drewN (nq + 1)).alloc (.cells #[] 3)) w.heap.size (some ⟨b2, o2, none⟩) ((ws.take k).map (Value.int .i64)) := (hin1.drewN _).alloc hnx.size _
          have hbz : Below w.heap.size w ((wr.drewN (nq + 1)).alloc (.cells #[] 3)) := (below_drewN hnx _).alloc hnx.size _
          have HBZ := Lib.hid hbz
          have hlk : k = (ws.take k).length := by simp; omega
          have HLK := Lib.hid hlk
          have hld : ws.length - (k + 1) = (ws.drop (k + 1)).length := by simp
          have HLD := Lib.hid hld
          have hwk1 : IntKind.i64.wrap ((k : Int) + 1) = (k : Int) + 1 := IntWalk.i64_in _ (by omega)
          have hwk2 : (0 : Int) ≤ (k : Int) + 1 := by omega
          have hwk3 : ((k : Int) + 1).toNat = k + 1 := by omega
          clear hbz hlk hld hin hin1
          rcases two with ⟨hck, hdrop⟩ | ⟨hck, hdrop⟩
          all_goals
            go_region_law (first
              | (refine step_append_sl _ rfl (.tmp 31) (.tmp 34) 24 rfl 3 Try.underlying24 int_info rfl (by omega) w.heap.size _ [] rfl hE0 w.heap.size _ _ _ (ws.take k) rfl HLK.out (by simp) hin2 (by intro y _; rfl) (by rw [← HLK.out]; simp; omega) HBZ.out.size ?_; intro v2 w2 hown2 hg2; have HB2 := Lib.hid (HBZ.out.grown hg2 HBZ.out.size (fun j hj => hE0.ge_base j hj)))
              | (refine step_append_sl _ rfl (.tmp 35) (.tmp 39) 24 rfl 3 Try.underlying24 int_info rfl (by omega) w.heap.size _ _ rfl hown2 w.heap.size _ _ _ (ws.drop (k + 1)) rfl HLD.out (by simp) (hdrop.below HB2.out) (by intro y _; rfl) (by rw [← HLD.out]; simp; omega) HB2.out.size ?_; intro v3 w3 hown3 hg3; have HB3 := Lib.hid (HB2.out.grown hg3 HB2.out.size (fun j hj => hown2.ge_base j hj))))
            obtain ⟨A3, c3, hv3, hsl3⟩ := hown3.sl
            have hel : ([] ++ ws.take k) ++ ws.drop (k + 1) = ws.eraseIdx k := by rw [List.nil_append, List.eraseIdx_eq_take_drop_succ]
            have hcap : (ws.eraseIdx k).length ≤ c3 ∧ (A3 = none → c3 = 0) ∧ c3 ≤ 9223372036854775807 := by
              rw [← hel]
              have h2 := hown3.2
              rw [hv3] at h2
              rcases h2 with ⟨e1, e2⟩ | ⟨g4, c4, cur4, e1, _, _, e2, e3, _⟩
              · injection e1 with e3 e4 e5
                subst e3 e5
                exact ⟨by omega, fun _ => rfl, by omega⟩
              · injection e1 with e5 e6 e7
                subst e7
                refine ⟨e2, fun q => ?_, by unfold maxLen at e3; omega⟩
                rw [q] at e5
                cases e5
            rw [hel] at hsl3 hv3
            rw [hv3]
            have hel2 : (ws.eraseIdx k).length ≤ 60 := by
              have := List.length_eraseIdx_le ws k
              omega
            have hsz3 := HB3.out.size
            have hbt3 := hb.below HB3.out
            have HA3 := Lib.hid hcap.2.1
            have hc3a := hcap.1
            have hc3b := hcap.2.2
            clear hown3 hown2 hE0 hdrop hin2 hv3 hel hg2 hg3 hcap hck hwk1 hwk2 hwk3
            go_wp2_with (refine wpList_cut _ rfl (.tmp 42) (.const (.int .i64 1)) 24 rfl 3 Try.underlying24 rfl (int_size _) _ _ _ 1 rfl rfl (by omega) _ _ hbt3 (by simp; omega) ?_; intro A4 c4 hA4 hc4 hc4' hn4 hn4'; rw [Nat.add_sub_cancel])
            refine (IH.out (ws.eraseIdx k) A3 A4 c3 c4 w3 hsl3 (hA4.more hsz3) hc3a (by omega) HA3.out hel2 (by omega) hc3b (by omega)).mono ?_
            rintro e w4 ⟨rfl, hb4⟩
            have HB4 := Lib.hid (HB3.out.trans (hb4.mono hsz3))
            have hm2 := most_le t (ws.eraseIdx k)
            have HST : Hid (mostTo h ws (most ws t) (fun l => most l t) (k + 1) = if M < 1 + most (ws.eraseIdx k) t then 1 + most (ws.eraseIdx k) t else M) := by
              have hg : ws.getD k 0 = x := by simp [HX.out]
              show _ = _
              simp only [mostTo, hg, hsat, ← HM.out]
              simp
            generalize most (ws.eraseIdx k) t = N at *
            clear hb4 hA4 hn4 hn4' hbt3 hsl3
            by_cases hMN : M < 1 + N
            · have hMN' : (M : Int) < 1 + (N : Int) := by omega
              go_wp2_with fail
              go_roundw
              case rel =>
                refine ⟨k + 1, by omega, by go_num, ?_, HB4.out⟩
                rw [HST.out, if_pos hMN]
                go_num
              case measure => simp [intOf]; omega
            · have hMN' : ¬ (M : Int) < 1 + (N : Int) := by omega
              go_wp2_with fail
              go_roundw
              case rel =>
                refine ⟨k + 1, by omega, by go_num, ?_, HB4.out⟩
                rw [HST.out, if_neg hMN]
              case measure => simp [intOf]; omega
      · have hkk : k = ws.length := by omega
        subst hkk
        go_wp2_with fail
        go_ret
        exact ⟨ret_int (by rw [HM.out]; rfl), hnx⟩
end Go.Proofs.Ytfojdodeokdanaa
