/-
  protocol.Equal and the reference's Same: two protocols are equal if they hold the same (printed by genpqje.py).
-/
import Derived.Test.YtbbklideciappaaGreatDoorPqJ
namespace Go.Proofs.YtbbklideciappaaGreatDoor
open Go.RowKit Go.Maps

theorem fresh22 (w : World) (u0 u1 v0 v1 : Value) (t s : TypeId) : ((w.alloc (.cells #[u0, u1] t)).alloc (.cells #[v0, v1] s)).cell? ⟨w.heap.size, 0, none⟩ = some u0 ∧ ((w.alloc (.cells #[u0, u1] t)).alloc (.cells #[v0, v1] s)).cell? ⟨w.heap.size, 1, none⟩ = some u1 ∧ ((w.alloc (.cells #[u0, u1] t)).alloc (.cells #[v0, v1] s)).cell? ⟨w.heap.size + 1, 0, none⟩ = some v0 ∧ ((w.alloc (.cells #[u0, u1] t)).alloc (.cells #[v0, v1] s)).cell? ⟨w.heap.size + 1, 1, none⟩ = some v1 := by
  have h := fresh2 w u0 u1 t
  have hb := below_new (w.alloc (.cells #[u0, u1] t)) (.cells #[v0, v1] s)
  have k := fresh2 (w.alloc (.cells #[u0, u1] t)) v0 v1 s
  have e : (w.alloc (.cells #[u0, u1] t)).heap.size = w.heap.size + 1 := by simp
  rw [e] at k
  exact ⟨(hb.cell (p := ⟨w.heap.size, 0, none⟩) (lt_new _ _)).trans h.1, (hb.cell (p := ⟨w.heap.size, 1, none⟩) (lt_new _ _)).trans h.2, k.1, k.2⟩
theorem fresh33 (w : World) (u0 u1 u2 v0 v1 v2 : Value) (t s : TypeId) : (∀ j u, #[u0, u1, u2][j]? = some u → ((w.alloc (.cells #[u0, u1, u2] t)).alloc (.cells #[v0, v1, v2] s)).cell? ⟨w.heap.size, j, none⟩ = some u) ∧ (∀ j u, #[v0, v1, v2][j]? = some u → ((w.alloc (.cells #[u0, u1, u2] t)).alloc (.cells #[v0, v1, v2] s)).cell? ⟨w.heap.size + 1, j, none⟩ = some u) := by
  have hb := below_new (w.alloc (.cells #[u0, u1, u2] t)) (.cells #[v0, v1, v2] s)
  have h1 := (hb.block w.heap.size (lt_new _ _)).trans (new_obj w (.cells #[u0, u1, u2] t))
  have h2 := new_obj (w.alloc (.cells #[u0, u1, u2] t)) (.cells #[v0, v1, v2] s)
  have e : (w.alloc (.cells #[u0, u1, u2] t)).heap.size = w.heap.size + 1 := by simp
  rw [e] at h2
  exact ⟨fun j u hj => (cell_of_row _ _ j _ _ _ h1).trans hj, fun j u hj => (cell_of_row _ _ j _ _ _ h2).trans hj⟩
set_option maxRecDepth 100000 in
set_option maxHeartbeats 4000000 in
theorem equalP_any (w : World) (p q : Prot) (hp : ProtAt w w.heap.size p) (hq : ProtAt w w.heap.size q) (np : p.qs.length ≤ 9223372036854775807) (nl : ∀ x ∈ p.qs, x.ans.length ≤ 9223372036854775807) :
    Calls Tryz.prog 22 #[.agg #[.string p.name, .int .i64 p.ver, .slice p.qA p.qs.length p.qc], .agg #[.string q.name, .int .i64 q.ver, .slice q.qA q.qs.length q.qc]] w fun e w' => e = .returned (.bool (tb (conOf p = conOf q))) ∧ Below w.heap.size w w' := by
  obtain ⟨W0, hW0⟩ : ∃ W0, W0 = (w.alloc (.cells #[.string p.name, .int .i64 p.ver, .slice p.qA p.qs.length p.qc] 24)).alloc (.cells #[.string q.name, .int .i64 q.ver, .slice q.qA q.qs.length q.qc] 24) := ⟨_, rfl⟩
  have hb0 : Below w.heap.size w W0 := by rw [hW0]; exact ((Below.refl _ _).alloc (Nat.le_refl _) _).alloc (by simp) _
  have HB0 := Lib.hid hb0
  have HC := Lib.hid (equalQ_any p.qA q.qA p.qc q.qc p.qs q.qs W0 ((hp.below hb0).more hb0.size) ((hq.below hb0).more hb0.size) np nl)
  obtain ⟨pn, pv, pA, ps, pc⟩ := p
  obtain ⟨qn, qv, qA, qs, qc⟩ := q
  dsimp only at HC hW0 np ⊢
  clear hb0 hp hq nl
  by_cases h0 : pn = qn
  · have e0 := str_eq h0
    have H0 := Lib.hid h0
    clear h0
    by_cases h1 : pv = qv
    · have e1 : (pv == qv) = true := by simp [h1]
      have H1 := Lib.hid h1
      clear h1
      go_enter Tryz.func22, Tryz.ntmps22
      go_wp2_with fail
      rw [← hW0]
      clear hW0
      refine HC.out.mono ?_
      rintro e w' ⟨rfl, hb⟩
      have HB := Lib.hid (HB0.out.trans (hb.mono HB0.out.size))
      clear hb
      go_wp2_with fail
      go_ret
      exact ⟨ret_bool (tb_iff ⟨fun h => con_iff.2 ⟨H0.out, H1.out, h⟩, fun h => (con_iff.1 h).2.2⟩), HB.out⟩
    · have e1 : (pv == qv) = false := by simp [h1]
      have HN : Hid (¬ conOf ⟨pn, pv, pA, ps, pc⟩ = conOf ⟨qn, qv, qA, qs, qc⟩) := fun h => h1 (con_iff.1 h).2.1
      clear h1
      go_enter Tryz.func22, Tryz.ntmps22
      go_wp2_with fail
      rw [← hW0]
      clear hW0
      go_ret
      exact ⟨ret_no HN.out, HB0.out⟩
  · have e0 := str_ne h0
    have HN : Hid (¬ conOf ⟨pn, pv, pA, ps, pc⟩ = conOf ⟨qn, qv, qA, qs, qc⟩) := fun h => h0 (con_iff.1 h).1
    clear h0
    go_enter Tryz.func22, Tryz.ntmps22
    go_wp2_with fail
    rw [← hW0]
    clear hW0
    go_ret
    exact ⟨ret_no HN.out, HB0.out⟩
set_option maxRecDepth 100000 in
set_option maxHeartbeats 16000000 in
theorem same_any (w : World) (p q : Prot) (hp : ProtAt w w.heap.size p) (hq : ProtAt w w.heap.size q) (np : p.qs.length ≤ 9223372036854775807) (nl : ∀ x ∈ p.qs, x.ans.length ≤ 9223372036854775807) :
    Calls Tryz.prog 15 #[.agg #[.string p.name, .int .i64 p.ver, .slice p.qA p.qs.length p.qc], .agg #[.string q.name, .int .i64 q.ver, .slice q.qA q.qs.length q.qc]] w fun e w' => e = .returned (.bool (tb (conOf p = conOf q))) ∧ Below w.heap.size w w' := by
  obtain ⟨F1, F2⟩ := fresh33 w (.string p.name) (.int .i64 p.ver) (.slice p.qA p.qs.length p.qc) (.string q.name) (.int .i64 q.ver) (.slice q.qA q.qs.length q.qc) 24 24
  obtain ⟨W0, hW0⟩ : ∃ W0, W0 = (w.alloc (.cells #[.string p.name, .int .i64 p.ver, .slice p.qA p.qs.length p.qc] 24)).alloc (.cells #[.string q.name, .int .i64 q.ver, .slice q.qA q.qs.length q.qc] 24) := ⟨_, rfl⟩
  rw [← hW0] at F1 F2
  have hb0 : Below w.heap.size w W0 := by rw [hW0]; exact ((Below.refl _ _).alloc (Nat.le_refl _) _).alloc (by simp) _
  have hz0 : w.heap.size + 1 < W0.heap.size := by rw [hW0]; simp
  have g2 := F2 2 _ rfl
  have HB0 := Lib.hid hb0
  have HI := Lib.hid (And.intro ((hp.below hb0).more hb0.size) (And.intro ((hq.below hb0).more hb0.size) nl))
  obtain ⟨Q, hQ⟩ : ∃ Q : Prop, Q ↔ (conOf p = conOf q) := ⟨_, Iff.rfl⟩
  have hQ2 : Q ↔ (p.name = q.name ∧ p.ver = q.ver ∧ p.qs.length = q.qs.length ∧ ∀ (i : Nat) (x y : Ques), p.qs[i]? = some x → q.qs[i]? = some y → conQ x = conQ y) := by rw [hQ, con_iff, map_of]
  rw [← tb_iff hQ]
  obtain ⟨pn, pv, pA, ps, pc⟩ := p
  obtain ⟨qn, qv, qA, qs, qc⟩ := q
  dsimp only at hQ2 hW0 np g2 HI ⊢
  have HQ := Lib.hid hQ2
  clear hb0 hp hq nl hQ hQ2 F1 F2
  obtain ⟨m, hm⟩ : ∃ m, m = ps.length := ⟨_, rfl⟩
  obtain ⟨m2, hm2⟩ : ∃ m, m = qs.length := ⟨_, rfl⟩
  have HM := Lib.hid (And.intro hm hm2)
  rw [← hm] at np hW0 ⊢
  rw [← hm2] at hW0 g2 ⊢
  clear hm hm2
  by_cases h0 : pn = qn
  rotate_left
  · have e0 := str_ne h0
    have HN : Hid (¬ Q) := fun h => h0 (HQ.out.1 h).1
    clear h0
    go_enter Tryz.func15, Tryz.ntmps15
    go_wp2_with fail
    rw [← hW0]
    clear hW0
    go_ret
    exact ⟨ret_no HN.out, HB0.out⟩
  have e0 := str_eq h0
  have H0 := Lib.hid h0
  clear h0
  by_cases h1 : pv = qv
  rotate_left
  · have e1 : (pv != qv) = true := by simp [h1]
    have HN : Hid (¬ Q) := fun h => h1 (HQ.out.1 h).2.1
    clear h1
    go_enter Tryz.func15, Tryz.ntmps15
    go_wp2_with fail
    rw [← hW0]
    clear hW0
    go_ret
    exact ⟨ret_no HN.out, HB0.out⟩
  have e1 : (pv != qv) = false := by simp [h1]
  have H1 := Lib.hid h1
  clear h1
  by_cases hl : m = m2
  rotate_left
  · have e2 : ((m : Int) != (m2 : Int)) = true := by simp; omega
    have HN : Hid (¬ Q) := fun h => hl (by rw [HM.out.1, HM.out.2]; exact (HQ.out.1 h).2.2.1)
    clear hl
    go_enter Tryz.func15, Tryz.ntmps15
    go_wp2_with fail
    rw [← hW0]
    clear hW0
    go_ret
    exact ⟨ret_no HN.out, HB0.out⟩
  subst hl
  have e2 : ((m : Int) != (m : Int)) = false := by simp
  go_enter Tryz.func15, Tryz.ntmps15
  go_wp2_with fail
  rw [← hW0]
  clear hW0
  go_loopw [33] (fun i X => ∃ k : Nat, k ≤ m ∧ i = .int .i64 k ∧ Below W0.heap.size W0 X ∧ ∀ (i : Nat) (x y : Ques), i < k → ps[i]? = some x → qs[i]? = some y → conQ x = conQ y) (fun i _ => m - (intOf i).toNat)
  case atStart => exact ⟨0, Nat.zero_le _, rfl, Below.refl _ _, fun i p q h => absurd h (by omega)⟩
  case round =>
    obtain ⟨k, hk, rfl, hb, hso⟩ := hrel
    have HB := Lib.hid (And.intro hb hso)
    have hg2 := (hb.cell (p := ⟨w.heap.size + 1, 2, none⟩) hz0).trans g2
    have hzr := Nat.lt_of_lt_of_le hz0 hb.size
    clear hso
    by_cases hlt : k < m
    · have hlt' : (k : Int) < (m : Int) := by omega
      obtain ⟨x, hx⟩ : ∃ x, ps[k]? = some x := ⟨ps[k]'(by have := HM.out.1; omega), by simp⟩
      obtain ⟨y, hy⟩ : ∃ y, qs[k]? = some y := ⟨qs[k]'(by have := HM.out.2; omega), by simp⟩
      obtain ⟨b, o, hA, hbb, x0, x1, xk⟩ := ques_at (HI.out.1.below hb) hx
      obtain ⟨b2, o2, hC, hbb2, y0, y1, yk⟩ := ques_at (HI.out.2.1.below hb) hy
      have HX := Lib.hid (And.intro hx hy)
      have hxl := HI.out.2.2 x (List.mem_of_getElem? hx)
      dsimp only at hA hC
      rw [hA]
      rw [hC] at hg2
      have hbw : b2 < wr.heap.size := Nat.lt_of_lt_of_le hbb2 hb.size
      have hnz : ¬ w.heap.size + 1 = wr.heap.size := by omega
      have hnb : ¬ b2 = wr.heap.size := by omega
      obtain ⟨xt, xA, xs, xc⟩ := x
      obtain ⟨yt, yA, ys, yc⟩ := y
      dsimp only at x0 x1 y0 y1 xk yk hxl
      obtain ⟨r0, r1, s0, s1⟩ := fresh22 wr (.string xt) (.slice xA xs.length xc) (.string yt) (.slice yA ys.length yc) 43 43
      obtain ⟨W2, hW2⟩ : ∃ W2, W2 = ((wr.alloc (.cells #[.string xt, .slice xA xs.length xc] 43)).alloc (.cells #[.string yt, .slice yA ys.length yc] 43)) := ⟨_, rfl⟩
      have hb1 : Below wr.heap.size wr W2 := by rw [hW2]; exact ((Below.refl _ _).alloc (Nat.le_refl _) _).alloc (by simp) _
      rw [← hW2] at r0 r1 s0 s1
      have HB1 := Lib.hid (hb.trans (hb1.mono hb.size))
      have HR := Lib.hid (And.intro (RecsAt.below xk (hb1.mono hb.size)) (RecsAt.below yk (hb1.mono hb.size)))
      clear hx hy hA hC hbb hbb2 xk yk hb1
      by_cases ht : xt = yt
      rotate_left
      · have e3 := str_ne ht
        have HN : Hid (¬ Q) := fun h => ht (conQ_iff.1 ((HQ.out.1 h).2.2.2 k _ _ HX.out.1 HX.out.2)).1
        clear ht hb
        go_wp2_with fail
        rw [← hW2]
        clear hW2
        go_ret
        exact ⟨ret_no HN.out, HB0.out.trans (HB1.out.mono HB0.out.size)⟩
      have e3 := str_eq ht
      have HT := Lib.hid ht
      clear ht
      by_cases hal : xs.length = ys.length
      rotate_left
      · have e4 : ((xs.length : Int) != (ys.length : Int)) = true := by simp; omega
        have HN : Hid (¬ Q) := fun h => hal (congrArg List.length (conQ_iff.1 ((HQ.out.1 h).2.2.2 k _ _ HX.out.1 HX.out.2)).2)
        clear hal hb
        go_wp2_with fail
        rw [← hW2]
        clear hW2
        go_ret
        exact ⟨ret_no HN.out, HB0.out.trans (HB1.out.mono HB0.out.size)⟩
      have e4 : ((xs.length : Int) != (ys.length : Int)) = false := by simp [hal]
      have HL := Lib.hid hal
      clear hal hb
      go_wp2_with fail
      rw [← hW2]
      clear hW2
      go_loopw [60] (fun i X => ∃ j : Nat, j ≤ xs.length ∧ i = .int .i64 j ∧ xs.take j = ys.take j ∧ ∃ n, X = W2.drewN n) (fun i _ => xs.length - (intOf i).toNat)
      case atStart => exact ⟨0, Nat.zero_le _, rfl, rfl, 0, rfl⟩
      case round =>
        obtain ⟨j, hj, rfl, htk, n, rfl⟩ := hrel
        have HTK := Lib.hid htk
        clear htk
        by_cases hjl : j < xs.length
        · have hjl2 : j < ys.length := by rw [← HL.out]; exact hjl
          obtain ⟨z, hz⟩ : ∃ z, xs[j]? = some z := ⟨xs[j], by simp⟩
          obtain ⟨u, hu⟩ : ∃ u, ys[j]? = some u := ⟨ys[j], by simp⟩
          have HZ := Lib.hid hz
          have HY := Lib.hid hu
          obtain ⟨b3, o3, rfl, _, q0, q1, q2, q3⟩ := ans_at HR.out.1 hz
          obtain ⟨b4, o4, rfl, _, t0, t1, t2, t3⟩ := ans_at HR.out.2 hu
          clear hz hu
          obtain ⟨z0, z1, z2, z3⟩ := z
          obtain ⟨u0, u1, u2, u3⟩ := u
          dsimp only at q0 q1 q2 q3 t0 t1 t2 t3
          by_cases h0 : z0 = u0
          · subst h0
            have g0 := str_eq (rfl : z0 = z0)
            by_cases h1 : z1 = u1
            · subst h1
              have g1 : (z1 == z1) = true := by simp
              by_cases h2 : z2 = u2
              · subst h2
                have g2' : (z2 == z2) = true := by simp
                by_cases h3 : z3 = u3
                · subst h3
                  have g3 := str_eq (rfl : z3 = z3)
                  have HT2 : Hid (xs.take (j + 1) = ys.take (j + 1)) := by show _ = _; rw [take_snoc' HZ.out, take_snoc' HY.out, HTK.out]
                  clear HZ HY
                  go_wp2_with fail
                  go_quiet (fail)
                  go_wp2_with fail
                  go_roundw
                  case rel => exact ⟨j + 1, by omega, by go_num, HT2.out, _, rfl⟩
                  case measure => simp [intOf]; omega
                · have g3 := str_ne h3
                  have H3 := Lib.hid h3
                  clear h3
                  have HNE : Hid (¬ Q) := by
                    intro h
                    have e := (conQ_iff.1 ((HQ.out.1 h).2.2.2 k _ _ HX.out.1 HX.out.2)).2
                    have hz := HZ.out
                    dsimp only at e
                    rw [e] at hz
                    exact H3.out (congrArg Ans.code (Option.some.inj (hz.symm.trans HY.out)))
                  clear HZ HY
                  go_wp2_with fail
                  go_quiet (fail)
                  go_wp2_with fail
                  go_ret
                  exact ⟨ret_no HNE.out, below_drewN' (below_drewN' (HB0.out.trans (HB1.out.mono HB0.out.size)) n) _⟩
              · have g2' : (z2 == u2) = false := by simp [h2]
                have HNE : Hid (¬ Q) := by
                  intro h
                  have e := (conQ_iff.1 ((HQ.out.1 h).2.2.2 k _ _ HX.out.1 HX.out.2)).2
                  have hz := HZ.out
                  dsimp only at e
                  rw [e] at hz
                  exact h2 (congrArg Ans.urg (Option.some.inj (hz.symm.trans HY.out)))
                clear HZ HY
                go_wp2_with fail
                go_quiet (fail)
                go_wp2_with fail
                go_ret
                exact ⟨ret_no HNE.out, below_drewN' (below_drewN' (HB0.out.trans (HB1.out.mono HB0.out.size)) n) _⟩
            · have g1 : (z1 == u1) = false := by simp [h1]
              have HNE : Hid (¬ Q) := by
                intro h
                have e := (conQ_iff.1 ((HQ.out.1 h).2.2.2 k _ _ HX.out.1 HX.out.2)).2
                have hz := HZ.out
                dsimp only at e
                rw [e] at hz
                exact h1 (congrArg Ans.next (Option.some.inj (hz.symm.trans HY.out)))
              clear HZ HY
              go_wp2_with fail
              go_quiet (fail)
              go_wp2_with fail
              go_ret
              exact ⟨ret_no HNE.out, below_drewN' (below_drewN' (HB0.out.trans (HB1.out.mono HB0.out.size)) n) _⟩
          · have g0 := str_ne h0
            have HZ0 := Lib.hid h0
            clear h0
            have HNE : Hid (¬ Q) := by
              intro h
              have e := (conQ_iff.1 ((HQ.out.1 h).2.2.2 k _ _ HX.out.1 HX.out.2)).2
              have hz := HZ.out
              dsimp only at e
              rw [e] at hz
              exact HZ0.out (congrArg Ans.text (Option.some.inj (hz.symm.trans HY.out)))
            clear HZ HY
            go_wp2_with fail
            go_quiet (fail)
            go_wp2_with fail
            go_ret
            exact ⟨ret_no HNE.out, below_drewN' (below_drewN' (HB0.out.trans (HB1.out.mono HB0.out.size)) n) _⟩
        · obtain rfl : j = xs.length := by omega
          have HEQ : Hid (conQ ⟨xt, xA, xs, xc⟩ = conQ ⟨yt, yA, ys, yc⟩) := conQ_iff.2 ⟨HT.out, eq_of_takes HL.out HTK.out⟩
          go_wp2_with fail
          go_roundw
          case rel => exact ⟨k + 1, by omega, by go_num, below_drewN' HB1.out n, fun i x' y' hi hx' hy' => by
            by_cases e : i = k
            · subst e
              rw [HX.out.1] at hx'
              rw [HX.out.2] at hy'
              injection hx' with hx'
              injection hy' with hy'
              rw [← hx', ← hy']
              exact HEQ.out
            · exact HB.out.2 i x' y' (by omega) hx' hy'⟩
          case measure => simp [intOf]; omega
    · obtain rfl : k = m := by omega
      have HY : Hid Q := HQ.out.2 ⟨H0.out, H1.out, by rw [← HM.out.1, ← HM.out.2], fun i x y hx hy => HB.out.2 i x y (by have := (List.getElem?_eq_some_iff.1 hx).1; have := HM.out.1; omega) hx hy⟩
      clear hb
      go_wp2_with fail
      go_ret
      exact ⟨ret_yes HY.out, HB0.out.trans (HB.out.1.mono HB0.out.size)⟩
end Go.Proofs.YtbbklideciappaaGreatDoor
