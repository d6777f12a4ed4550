/-
  samaritanref35.Time: the same as dispatchcost.TravelTime.
-/
import Derived.Test.YtpomakmmjbimfaaRefF
namespace Go.Proofs.Ytpomakmmjbimfaa
open Go.RowKit Go.Shelf Go.Maps

theorem below_dr {B : Nat} {a w : World} (n : Nat) (h : Below B a w) : Below B a (w.drewN n) := ⟨h.os, h.tape, h.output, h.size, h.block⟩

theorem Way.source {S : Nat → Prop} {E : List EdgeT} {W : List Int} {v : Nat} {d : Int} (h : Way S E W v d) : ∃ s, S s := by
  induction h with
  | src hs => exact ⟨_, hs⟩
  | step _ _ ih => exact ih
theorem Fin35.none {n : Nat} {S : Nat → Prop} {E : List EdgeT} {W D : List Int} (h : Fin35 n S E W D) (hS : ∀ s, ¬ S s) (v : Nat) (d : Int) (hd : D[v]? = some d) : d = 4611686018427387904 := by
  by_cases c : d = 4611686018427387904
  · exact c
  · obtain ⟨s, hs⟩ := (h.way v d hd c).source
    exact absurd hs (hS s)
theorem farStep_inf {D : List Int} (h : ∀ (v : Nat) (d : Int), D[v]? = some d → d = 4611686018427387904) {m : Int} (hm : m ≤ 4611686018427387904) (z : Int) : farStep D (some m) z = Option.none ∨ farStep D (some m) z = some 4611686018427387904 := by
  unfold farStep
  simp only [Option.bind_some]
  split
  · rename_i hz
    obtain ⟨d, hd⟩ : ∃ d, D[z.toNat]? = some d := ⟨D[z.toNat]'(by omega), by simp⟩
    right
    rw [List.getD_eq_getElem?_getD, hd, h _ _ hd]
    show some (max m 4611686018427387904) = _
    congr 1
    omega
  · exact .inl rfl
theorem far_inf {D : List Int} (h : ∀ (v : Nat) (d : Int), D[v]? = some d → d = 4611686018427387904) : ∀ (zs : List Int) {m : Int}, m ≤ 4611686018427387904 → zs ≠ [] → zs.foldl (farStep D) (some m) = Option.none ∨ zs.foldl (farStep D) (some m) = some 4611686018427387904
  | [], _, _, hne => absurd rfl hne
  | [z], m, hm, _ => farStep_inf h hm z
  | z :: y :: zs, m, hm, _ => by
    rw [List.foldl_cons]
    rcases farStep_inf h hm z with e | e
    · rw [e, far_none]
      exact .inl rfl
    · rw [e]
      exact far_inf h (y :: zs) (by omega) (by simp)
theorem farL_inf {D zs : List Int} (h : ∀ (v : Nat) (d : Int), D[v]? = some d → d = 4611686018427387904) : farL D zs = 4611686018427387904 := by
  unfold farL
  split
  · rfl
  · rename_i hne
    unfold farK
    rcases far_inf h zs (m := 0) (by omega) hne with e | e <;> rw [e] <;> rfl
theorem farK_ge {D zs : List Int} {m : Int} (h : farK D zs = some m) : 0 ≤ m := by
  unfold farK at h
  have key : ∀ (zs : List Int) (a m : Int), 0 ≤ a → zs.foldl (farStep D) (some a) = some m → 0 ≤ m := by
    intro zs
    induction zs with
    | nil => intro a m ha h; cases h; exact ha
    | cons z zs ih =>
      intro a m ha h
      rw [List.foldl_cons] at h
      unfold farStep at h
      simp only [Option.bind_some] at h
      split at h
      · exact ih _ _ (by omega) h
      · have := far_none D zs
        unfold farStep at this
        rw [this] at h
        cases h
  exact key zs 0 m (by omega) h

set_option maxRecDepth 100000 in
set_option maxHeartbeats 4000000 in
theorem refTime35_any (n : Nat) (E : List EdgeT) (A A1 A2 : Option Addr) (c c1 c2 : Nat) (ts zs Ds : List Int) (fr : Int) (w : World) (hn : n ≤ 256) (hE : E.length ≤ 16384) (he : EdgesAt w w.heap.size A E) (hok : ∀ e ∈ E, 0 ≤ e.frm ∧ e.frm < n ∧ 0 ≤ e.to ∧ e.to < n)
    (hs : Sl w w.heap.size A1 (ts.map (Value.int .i64))) (hss : Sl w w.heap.size A2 (zs.map (Value.int .i64))) (hsl : zs.length ≤ 16384) (hf : Fin35 n (fun s => (s : Int) ∈ [fr] ∧ s < n) E (timesL ts E.length) Ds) :
    Calls Try.prog 13 #[.agg #[.int .i64 n, .slice A E.length c], .slice A1 ts.length c1, .int .i64 fr, .slice A2 zs.length c2] w fun e w' => e = .returned (.int .i64 (farL Ds zs)) ∧ Below w.heap.size w w' := by
  have HB1 := Lib.hid ((Below.refl w.heap.size w).alloc (Nat.le_refl _) (.cells #[.int .i64 n, .slice A E.length c] 24))
  by_cases hfr : 0 ≤ fr ∧ fr < n
  · by_cases h0 : zs.length = 0
    · have d1 : decide (fr < 0) = false := decide_eq_false (by omega)
      have d2 : decide ((n : Int) ≤ fr) = false := decide_eq_false (by omega)
      have d3 : ((zs.length : Int) == 0) = true := beq_iff_eq.2 (by omega)
      have d3' : (zs.length == 0) = true := beq_iff_eq.2 h0
      have HV : Hid (farL Ds zs = 4611686018427387904) := Lib.hid (by rw [farL, if_pos (List.length_eq_zero_iff.1 h0)])
      clear he hok hs hss hf h0
      go_enter Try.func13, Try.ntmps13
      go_wp2_with fail
      go_ret
      exact ⟨ret_int HV.out.symm, HB1.out⟩
    · have d1 : decide (fr < 0) = false := decide_eq_false (by omega)
      have d2 : decide ((n : Int) ≤ fr) = false := decide_eq_false (by omega)
      have d3 : ((zs.length : Int) == 0) = false := beq_eq_false_iff_ne.2 (by omega)
      have d3' : (zs.length == 0) = false := beq_eq_false_iff_ne.2 h0
      have HNE : Hid (zs ≠ []) := Lib.hid (fun e => h0 (by rw [e]; rfl))
      have HB2 := Lib.hid (HB1.out.alloc (by simp) (.cells #[.int .i64 fr] 3))
      obtain ⟨W1, hW1⟩ : ∃ W1, W1 = w.alloc (.cells #[.int .i64 n, .slice A E.length c] 24) := ⟨_, rfl⟩
      have hfrom := refFrom_any n E A A1 (some ⟨W1.heap.size, 0, none⟩) c c1 1 ts [fr] Ds (W1.alloc (.cells #[.int .i64 fr] 3)) hn hE (by rw [hW1]; exact (he.below HB2.out).more HB2.out.size) hok (by rw [hW1]; exact (hs.below HB2.out).more HB2.out.size) (Sl.lit W1 [.int .i64 fr] 3 rfl) (by simp) hf
      have hWz : W1.heap.size = w.heap.size + 1 := by rw [hW1]; simp
      rw [hWz, List.length_singleton] at hfrom
      have hlen := hf.len
      have hce : (W1.alloc (.cells #[.int .i64 fr] 3)).cell? ⟨w.heap.size, 0, none⟩ = some (.int .i64 n) := by
        rw [World.cell?_alloc_lt _ _ _ (by rw [hW1]; simp), hW1, World.cell?_alloc_at (hn := rfl)]
        rfl
      have HCE : Hid ((W1.alloc (.cells #[.int .i64 fr] 3)).cell? ⟨w.heap.size, 0, none⟩ = some (.int .i64 n) ∧ w.heap.size < (W1.alloc (.cells #[.int .i64 fr] 3)).heap.size ∧ Below w.heap.size w (W1.alloc (.cells #[.int .i64 fr] 3))) := Lib.hid ⟨hce, by rw [hW1]; simp; omega, by rw [hW1]; exact HB2.out⟩
      rw [hW1] at hfrom HCE
      have HFROM := Lib.hid hfrom
      have HSS := Lib.hid hss
      have HLEN := Lib.hid hlen
      have HGE := Lib.hid (hf.small)
      clear he hok hs hss hf h0 hfr hW1 hce hfrom hlen hWz
      go_enter Try.func13, Try.ntmps13
      go_wp2_with fail
      ((with_reducible refine HFROM.out.mono ?_))
      rintro e w2 ⟨g, rfl, hown, hbb⟩
      obtain ⟨k1, k2, k3⟩ := HCE.out
      have HCN : Hid (w2.cell? ⟨w.heap.size, 0, none⟩ = some (.int .i64 n)) := Lib.hid ((hbb.cell (p := ⟨w.heap.size, 0, none⟩) k2).trans k1)
      have HBW := Lib.hid (k3.trans (hbb.mono k3.size))
      have HOW := Lib.hid hown
      have HSW := Lib.hid (HSS.out.below HBW.out)
      clear hbb k1 k2 k3 hown HCE HFROM HSS
      go_wp2_with fail
      go_loopw [10, 11] (fun mv iv wr => ∃ (k : Nat) (m : Int) (q : Nat), k ≤ zs.length ∧ iv = .int .i64 k ∧ mv = .int .i64 m ∧ wr = w2.drewN q ∧ farK Ds (zs.take k) = some m) (fun _ i _ => zs.length - (intOf i).toNat)
      case atStart => exact ⟨0, 0, 0, Nat.zero_le _, rfl, rfl, rfl, rfl⟩
      case round =>
        obtain ⟨k, m, q, hk, rfl, rfl, rfl, hm⟩ := hrel
        have HM := Lib.hid hm
        have hm0 := farK_ge hm
        have hcn := HCN.out
        clear hm
        by_cases hlt : k < zs.length
        · obtain ⟨z, hz⟩ : ∃ z, zs[k]? = some z := ⟨zs[k], by simp⟩
          obtain ⟨b, o, rfl, hb, hc⟩ := HSW.out.int hz
          have HZ := Lib.hid hz
          have HTK : Hid (zs.take (k + 1) = zs.take k ++ [z]) := Lib.hid (by
            have hl := (List.getElem?_eq_some_iff.1 hz).1
            rw [List.take_succ_eq_append_getElem hl, (List.getElem?_eq_some_iff.1 hz).2])
          clear hz
          by_cases hnode : 0 ≤ z ∧ z < n
          · obtain ⟨t, rfl⟩ : ∃ t : Nat, z = (t : Int) := ⟨z.toNat, by omega⟩
            have htn : t < n := by omega
            have htj : (t : Int) < (n : Int) := by omega
            have e1 : decide ((t : Int) < 0) = false := decide_eq_false (by omega)
            have e2 : decide ((n : Int) ≤ (t : Int)) = false := decide_eq_false (by omega)
            have e2' : decide (n ≤ t) = false := decide_eq_false (by omega)
            obtain ⟨dt, hdt⟩ : ∃ dt, Ds[t]? = some dt := ⟨Ds[t]'(by rw [HLEN.out]; exact htn), by simp⟩
            obtain ⟨hc2, _⟩ := HOW.out.read hdt
            have HREL : Hid (farK Ds (zs.take (k + 1)) = some (max m dt)) := Lib.hid (by
              rw [HTK.out, farK_snoc, HM.out]
              have hg : Ds.getD (t : Int).toNat 0 = dt := by rw [Int.toNat_natCast, List.getD_eq_getElem?_getD, hdt]; rfl
              show (if 0 ≤ (t : Int) ∧ (t : Int) < Ds.length then some (max m (Ds.getD (t : Int).toNat 0)) else none) = some (max m dt)
              rw [hg, if_pos (by rw [HLEN.out]; omega)])
            clear hdt hnode
            by_cases hmd : m < dt
            · have e3 : decide (m < dt) = true := decide_eq_true hmd
              go_wp2_with fail
              go_quiet (fail)
              go_wp2_with fail
              go_roundw
              case rel =>
                refine ⟨k + 1, dt, q + nq, by omega, by go_num, rfl, by first | rfl | (rw [World.drewN_drewN]), ?_⟩
                rw [HREL.out]
                congr 1
                omega
              case measure => simp [intOf]; omega
            · have e3 : decide (m < dt) = false := decide_eq_false hmd
              go_wp2_with fail
              go_quiet (fail)
              go_wp2_with fail
              go_roundw
              case rel =>
                refine ⟨k + 1, m, q + nq, by omega, by go_num, rfl, by first | rfl | (rw [World.drewN_drewN]), ?_⟩
                rw [HREL.out]
                congr 1
                omega
              case measure => simp [intOf]; omega
          · have HV : Hid (farL Ds zs = 4611686018427387904) := Lib.hid (by
              rw [farL, if_neg HNE.out, farK_none HM.out HZ.out (by rw [HLEN.out]; exact hnode)]
              rfl)
            by_cases hz0 : z < 0
            · have e1 : decide (z < 0) = true := decide_eq_true hz0
              clear hnode hz0
              go_wp2_with fail
              go_quiet (fail)
              go_wp2_with fail
              go_ret
              exact ⟨ret_int HV.out.symm, below_dr _ (below_dr _ HBW.out)⟩
            · have e1 : decide (z < 0) = false := decide_eq_false hz0
              have e2 : decide ((n : Int) ≤ z) = true := decide_eq_true (by omega)
              clear hnode hz0
              go_wp2_with fail
              go_quiet (fail)
              go_wp2_with fail
              go_ret
              exact ⟨ret_int HV.out.symm, below_dr _ (below_dr _ HBW.out)⟩
        · have hkk : k = zs.length := by omega
          subst hkk
          go_wp2_with fail
          go_ret
          refine ⟨ret_int ?_, below_dr _ HBW.out⟩
          have := HM.out
          rw [List.take_length] at this
          rw [farL, if_neg HNE.out, this]
          rfl
  · have HV : Hid (farL Ds zs = 4611686018427387904) := Lib.hid (farL_inf (hf.none (by
      rintro s ⟨h1, h2⟩
      simp at h1
      omega)))
    by_cases h1 : fr < 0
    · have d1 : decide (fr < 0) = true := decide_eq_true h1
      clear he hok hs hss hf hfr
      go_enter Try.func13, Try.ntmps13
      go_wp2_with fail
      go_ret
      exact ⟨ret_int HV.out.symm, HB1.out⟩
    · have d1 : decide (fr < 0) = false := decide_eq_false h1
      have d2 : decide ((n : Int) ≤ fr) = true := decide_eq_true (by omega)
      clear he hok hs hss hf hfr
      go_enter Try.func13, Try.ntmps13
      go_wp2_with fail
      go_ret
      exact ⟨ret_int HV.out.symm, HB1.out⟩
end Go.Proofs.Ytpomakmmjbimfaa
