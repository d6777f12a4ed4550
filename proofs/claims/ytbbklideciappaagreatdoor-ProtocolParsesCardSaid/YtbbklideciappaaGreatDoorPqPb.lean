/-
  samaritanref12.Parse (printed by genpqpb.py).
-/
import Derived.Test.YtbbklideciappaaGreatDoorPqPm
import Derived.Test.YtbbklideciappaaGreatDoorPqY
namespace Go.Proofs.YtbbklideciappaaGreatDoor
open Go.RowKit Go.Maps

theorem set3_same {W : World} {b : Nat} {v0 v1 v2 : Value} (h0 : W.cell? ⟨b, 0, none⟩ = some v0) (h1 : W.cell? ⟨b, 1, none⟩ = some v1) (h2 : W.cell? ⟨b, 2, none⟩ = some v2) (u0 u1 u2 : Value) :
    (((W.setCell ⟨b, 0, none⟩ u0).setCell ⟨b, 1, none⟩ u1).setCell ⟨b, 2, none⟩ u2).cell? ⟨b, 0, none⟩ = some u0 ∧ (((W.setCell ⟨b, 0, none⟩ u0).setCell ⟨b, 1, none⟩ u1).setCell ⟨b, 2, none⟩ u2).cell? ⟨b, 1, none⟩ = some u1 ∧ (((W.setCell ⟨b, 0, none⟩ u0).setCell ⟨b, 1, none⟩ u1).setCell ⟨b, 2, none⟩ u2).cell? ⟨b, 2, none⟩ = some u2 := by
  have a0 : (W.setCell ⟨b, 0, none⟩ u0).cell? ⟨b, 0, none⟩ = some u0 := World.cell?_setCell_same' _ _ _ (by rw [h0]; rfl)
  have a1 : (W.setCell ⟨b, 0, none⟩ u0).cell? ⟨b, 1, none⟩ = some v1 := (World.cell?_setCell_other _ _ _ _ (by simp)).trans h1
  have a2 : (W.setCell ⟨b, 0, none⟩ u0).cell? ⟨b, 2, none⟩ = some v2 := (World.cell?_setCell_other _ _ _ _ (by simp)).trans h2
  have b0 : ((W.setCell ⟨b, 0, none⟩ u0).setCell ⟨b, 1, none⟩ u1).cell? ⟨b, 0, none⟩ = some u0 := (World.cell?_setCell_other _ _ _ _ (by simp)).trans a0
  have b1 : ((W.setCell ⟨b, 0, none⟩ u0).setCell ⟨b, 1, none⟩ u1).cell? ⟨b, 1, none⟩ = some u1 := World.cell?_setCell_same' _ _ _ (by rw [a1]; rfl)
  have b2 : ((W.setCell ⟨b, 0, none⟩ u0).setCell ⟨b, 1, none⟩ u1).cell? ⟨b, 2, none⟩ = some v2 := (World.cell?_setCell_other _ _ _ _ (by simp)).trans a2
  exact ⟨(World.cell?_setCell_other _ _ _ _ (by simp)).trans b0, (World.cell?_setCell_other _ _ _ _ (by simp)).trans b1, World.cell?_setCell_same' _ _ _ (by rw [b2]; rfl)⟩
theorem set3_far {W : World} {b c : Nat} (h : c ≠ b) (j : Nat) (u0 u1 u2 : Value) : (((W.setCell ⟨b, 0, none⟩ u0).setCell ⟨b, 1, none⟩ u1).setCell ⟨b, 2, none⟩ u2).cell? ⟨c, j, none⟩ = W.cell? ⟨c, j, none⟩ := by
  have k : ∀ (X : World) (i : Nat) (u : Value), (X.setCell ⟨b, i, none⟩ u).cell? ⟨c, j, none⟩ = X.cell? ⟨c, j, none⟩ := fun X i u => World.cell?_setCell_other X ⟨b, i, none⟩ ⟨c, j, none⟩ u (by intro q; injection q with q _; omega)
  exact ((k _ _ _).trans (k _ _ _)).trans (k _ _ _)
theorem set3_free (W : World) (b c j : Nat) (u0 u1 u2 : Value) : (((W.setCell ⟨b, 0, none⟩ u0).setCell ⟨b, 1, none⟩ u1).setCell ⟨b, 2, none⟩ u2).frozen? ⟨c, j, none⟩ = W.frozen? ⟨c, j, none⟩ := by
  rw [World.frozen?_setCell, World.frozen?_setCell, World.frozen?_setCell]
/-- a variable of type Protocol and the result's, under way. -/
structure RQ (w : World) (tb j : Nat) (p : Prot) (X : World) : Prop where
  row : ProtAt X X.heap.size p
  far : Far (tb + 1) p
  nil : NilOk p
  cnt : CntLe p j
  t0 : X.cell? ⟨tb, 0, none⟩ = some (.string p.name)
  t1 : X.cell? ⟨tb, 1, none⟩ = some (.int .i64 p.ver)
  t2 : X.cell? ⟨tb, 2, none⟩ = some (.slice p.qA p.qs.length p.qc)
  z0 : X.frozen? ⟨tb, 0, none⟩ = false
  z1 : X.frozen? ⟨tb, 1, none⟩ = false
  z2 : X.frozen? ⟨tb, 2, none⟩ = false
  o0 : X.cell? ⟨w.heap.size, 0, none⟩ = some (.string ⟨#[]⟩)
  o1 : X.cell? ⟨w.heap.size, 1, none⟩ = some (.int .i64 0)
  o2 : X.cell? ⟨w.heap.size, 2, none⟩ = some (.slice none 0 0)
  y0 : X.frozen? ⟨w.heap.size, 0, none⟩ = false
  y1 : X.frozen? ⟨w.heap.size, 1, none⟩ = false
  y2 : X.frozen? ⟨w.heap.size, 2, none⟩ = false
  low : w.heap.size < tb
  lt : tb < X.heap.size
  below : Below w.heap.size w X
theorem RQ.next {w : World} {tb j : Nat} {p : Prot} {X Y : World} (h : RQ w tb j p X) (hb : Below X.heap.size X Y) : RQ w tb j p Y := by
  obtain ⟨h1, h2, h3, h4, t0, t1, t2, z0, z1, z2, o0, o1, o2, y0, y1, y2, l1, l2, hbel⟩ := h
  have K : ∀ b o, b < X.heap.size → Y.cell? ⟨b, o, none⟩ = X.cell? ⟨b, o, none⟩ := fun b o h => hb.cell (p := ⟨b, o, none⟩) h
  have Z : ∀ b o, b < X.heap.size → Y.frozen? ⟨b, o, none⟩ = X.frozen? ⟨b, o, none⟩ := fun b o h => hb.frozen (p := ⟨b, o, none⟩) h
  have l3 : w.heap.size < X.heap.size := by omega
  exact ⟨(ProtAt.below h1 hb).more hb.size, h2, h3, h4, (K _ _ l2).trans t0, (K _ _ l2).trans t1, (K _ _ l2).trans t2, (Z _ _ l2).trans z0, (Z _ _ l2).trans z1, (Z _ _ l2).trans z2, (K _ _ l3).trans o0, (K _ _ l3).trans o1, (K _ _ l3).trans o2, (Z _ _ l3).trans y0, (Z _ _ l3).trans y1, (Z _ _ l3).trans y2, l1, Nat.lt_of_lt_of_le l2 hb.size, hbel.trans (hb.mono hbel.size)⟩
theorem RQ.put {w : World} {tb j : Nat} {p : Prot} {X : World} (h : RQ w tb j p X) {j' : Nat} {p' : Prot} (hr : ProtAt X X.heap.size p') (hf : Far (tb + 1) p') (hn : NilOk p') (hc : CntLe p' j') :
    RQ w tb j' p' (((X.setCell ⟨tb, 0, none⟩ (.string p'.name)).setCell ⟨tb, 1, none⟩ (.int .i64 p'.ver)).setCell ⟨tb, 2, none⟩ (.slice p'.qA p'.qs.length p'.qc)) := by
  obtain ⟨_, _, _, _, t0, t1, t2, z0, z1, z2, o0, o1, o2, y0, y1, y2, l1, l2, hbel⟩ := h
  obtain ⟨s0, s1, s2⟩ := set3_same t0 t1 t2 (.string p'.name) (.int .i64 p'.ver) (.slice p'.qA p'.qs.length p'.qc)
  have hne : w.heap.size ≠ tb := by omega
  exact ⟨prot_set3 hr hf (Nat.lt_succ_self _) _ _ _, hf, hn, hc, s0, s1, s2, (set3_free _ _ _ _ _ _ _).trans z0, (set3_free _ _ _ _ _ _ _).trans z1, (set3_free _ _ _ _ _ _ _).trans z2, (set3_far hne _ _ _ _).trans o0, (set3_far hne _ _ _ _).trans o1, (set3_far hne _ _ _ _).trans o2, (set3_free _ _ _ _ _ _ _).trans y0, (set3_free _ _ _ _ _ _ _).trans y1, (set3_free _ _ _ _ _ _ _).trans y2, l1, by simpa using l2, below_set3 hbel (by omega) _ _ _⟩
theorem RQ.start (w : World) : RQ w (w.heap.size + 1) 0 noProt ((w.alloc (.cells #[.string ⟨#[]⟩, .int .i64 0, .slice none 0 0] 24)).alloc (.cells #[.string ⟨#[]⟩, .int .i64 0, .slice none 0 0] 24)) := by
  obtain ⟨F1, F2⟩ := fresh33 w (.string ⟨#[]⟩) (.int .i64 0) (.slice none 0 0) (.string ⟨#[]⟩) (.int .i64 0) (.slice none 0 0) 24 24
  have F3 := two_free w #[.string ⟨#[]⟩, .int .i64 0, .slice none 0 0] #[.string ⟨#[]⟩, .int .i64 0, .slice none 0 0] 24 24
  refine ⟨no_at, ⟨(fun _ _ e => by cases e), (fun q hq => by cases hq)⟩, ⟨⟨fun _ => rfl, (fun q hq => by cases hq)⟩, ⟨Nat.le_refl _, Nat.zero_le _⟩, (fun q hq => by cases hq)⟩, no_cnt, F2 0 _ rfl, F2 1 _ rfl, F2 2 _ rfl, (F3 0).2, (F3 1).2, (F3 2).2, F1 0 _ rfl, F1 1 _ rfl, F1 2 _ rfl, (F3 0).1, (F3 1).1, (F3 2).1, Nat.lt_succ_self _, by simp, ?_⟩
  exact ((Below.refl _ _).alloc (Nat.le_refl _) _).alloc (by simp) _
set_option maxRecDepth 100000 in
set_option maxHeartbeats 8000000 in
theorem rparse_any (s : ByteArray) (hs : s.size ≤ 1000000) (LF : List (List UInt8)) (tF : List UInt8) (hL : s.data.toList = joinL LF ++ tF) (h10 : ∀ x ∈ LF, (10 : UInt8) ∉ x) (ht : (10 : UInt8) ∉ tF) (w : World) :
    Calls Tryz.prog 14 #[.string s] w (RetPs LF tF w) := by
  have HST := Lib.hid (RQ.start w)
  obtain ⟨W0, hW0⟩ : ∃ W0, W0 = (w.alloc (.cells #[.string ⟨#[]⟩, .int .i64 0, .slice none 0 0] 24)).alloc (.cells #[.string ⟨#[]⟩, .int .i64 0, .slice none 0 0] 24) := ⟨_, rfl⟩
  obtain ⟨tb, htb⟩ : ∃ tb, tb = w.heap.size + 1 := ⟨_, rfl⟩
  rw [← hW0, ← htb] at HST
  have hsl : s.data.toList.length = s.size := by simp
  have HT := Lib.hid (And.intro hL (And.intro h10 (And.intro ht hsl)))
  have hLF : LF.length ≤ s.size := by
    have h1 := joinL_len' LF
    have h2 := congrArg List.length hL
    rw [List.length_append, hsl] at h2
    omega
  clear hL h10 ht hsl
  go_enter Tryz.func14, Tryz.ntmps14
  go_wp2_with fail
  rw [← hW0, ← htb]
  clear hW0 htb
  go_loopw [6, 7, 8] (fun lv fv iv X => ∃ (j k : Nat) (p : Prot), lv = .int .i64 ((j : Int) + 1) ∧ fv = .int .i64 (frL LF j) ∧ iv = .int .i64 k ∧ k ≤ s.size ∧ AtL LF tF j k ∧ Stt LF j p ∧ RQ w tb j p X) (fun _ _ i _ => s.size - (intOf i).toNat)
  case atStart => exact ⟨0, 0, noProt, rfl, rfl, rfl, Nat.zero_le _, at_start _ _, .inl ⟨rfl, rfl⟩, HST.out⟩
  case round =>
    obtain ⟨j, k, p, rfl, rfl, rfl, hks, hat, hstt, hrq⟩ := hrel
    have HW := Lib.hid (And.intro hat (And.intro hstt hrq))
    have HQ := Lib.hid hrq
    have hjl := hat.1
    have hfk := hat.2.1
    clear hat hstt hrq
    obtain ⟨X, hX⟩ : ∃ X, X = wr := ⟨_, rfl⟩
    subst hX
    have hS := HQ.out
    have t0 := hS.t0
    have t1 := hS.t1
    have t2 := hS.t2
    have z0 := hS.z0
    have z1 := hS.z1
    have z2 := hS.z2
    have o0 := hS.o0
    have o1 := hS.o1
    have o2 := hS.o2
    have y0 := hS.y0
    have y1 := hS.y1
    have y2 := hS.y2
    have hlt1 : tb < X.heap.size := hS.lt
    have hlt2 : w.heap.size < X.heap.size := by have := hS.low; omega
    have hne1 : ¬ tb = w.heap.size := by have := hS.low; omega
    have hne2 : ¬ w.heap.size = tb := by have := hS.low; omega
    clear hS
    by_cases hlt : k < s.size
    · have hb := at_byte HT.out.1 HT.out.2.1 HT.out.2.2.1 HW.out.1 (byte_at hlt)
      rcases hb with ⟨hb, hat⟩ | ⟨hb, x, hx, hxe, hfr, hat⟩
      · have e1 : ((s[k].toNat : Int) == 10) = false := b_ne (n := 10) (by omega) hb
        have e1' : ((s[k].toNat : Int) != 10) = true := by unfold bne; rw [e1]; rfl
        have HA := Lib.hid hat
        clear hb hat
        go_wp2_with fail
        go_roundw
        case rel => exact ⟨j, k + 1, p, rfl, rfl, by go_num, by omega, HA.out, HW.out.2.1, HW.out.2.2⟩
        case measure => simp [intOf]; omega
      · have e1 : ((s[k].toNat : Int) == 10) = true := b_eq (n := 10) (by omega) hb
        have e1' : ((s[k].toNat : Int) != 10) = false := by unfold bne; rw [e1]; rfl
        obtain ⟨S, hS⟩ : ∃ S, s.extract (frL LF j) k = S := ⟨_, rfl⟩
        have hSd : S.data.toList = x := by rw [← hS, ext_mid]; exact hxe
        have hSs : S.size ≤ 1000000 := by rw [← hS, ByteArray.size_extract]; omega
        have HA := Lib.hid (And.intro hat (And.intro hx hfr))
        have hj1 : j < LF.length := (List.getElem?_eq_some_iff.1 hx).1
        clear hb hxe hat hx
        by_cases hj : j = 0
        · subst hj
          have HBG := Lib.hid (fun Y => begun_any S (by omega) Y)
          rw [hSd] at HBG
          clear hSd hSs
          go_wp2_with fail
          refine (HBG.out _).mono ?_
          rintro e X2 ⟨n, v, b, rfl, hbv, hb2⟩
          have HN := Lib.hid (HQ.out.next hb2)
          have HV := Lib.hid hbv
          clear t0 t1 t2 z0 z1 z2 o0 o1 o2 y0 y1 y2 hlt1 hlt2 hbv hb2
          have hS := HN.out
          have t0 := hS.t0
          have t1 := hS.t1
          have t2 := hS.t2
          have z0 := hS.z0
          have z1 := hS.z1
          have z2 := hS.z2
          have o0 := hS.o0
          have o1 := hS.o1
          have o2 := hS.o2
          have y0 := hS.y0
          have y1 := hS.y1
          have y2 := hS.y2
          have hlt1 : tb < X2.heap.size := hS.lt
          have hlt2 : w.heap.size < X2.heap.size := by have := hS.low; omega
          have hne1 : ¬ tb = w.heap.size := by have := hS.low; omega
          have hne2 : ¬ w.heap.size = tb := by have := hS.low; omega
          clear hS
          simp only [protV]
          cases b with
          | true =>
            have HH : Hid (IsHead x n v) := Lib.hid (by
              rcases HV.out with ⟨_, h⟩ | ⟨h, _⟩
              · exact h
              · cases h)
            go_wp2_with fail
            go_roundw
            case rel => exact ⟨1, k + 1, ⟨n, v, none, [], 0⟩, by go_num, by rw [HA.out.2.2]; go_num, by go_num, by omega, HA.out.1, stt_head HA.out.2.1 HH.out, HN.out.put (p' := ⟨n, v, none, [], 0⟩) at_new far_new nil_new cnt_new⟩
            case measure => simp [intOf]; omega
          | false =>
            have HH : Hid (∀ n v, ¬ IsHead x n v) := Lib.hid (by
              rcases HV.out with ⟨h, _⟩ | ⟨_, h⟩
              · cases h
              · exact h)
            go_wp2_with fail
            refine bodyPost_ret (v := .tuple #[protV ⟨#[]⟩ 0 none 0 0, .int .i64 1, .int .i64 2]) (by simp [results, Tryz.results14, go_sem, o0, o1, o2, protV]) rfl ?_
            exact ⟨noProt, _, _, rfl, ret_head HA.out.2.1 HH.out, no_at, no_cnt, below_set3 (below_set3 HN.out.below (Nat.le_of_lt HN.out.low) _ _ _) (Nat.le_refl _) _ _ _⟩
        · have e2 : (((j : Int) + 1) == 1) = false := by
            rw [beq_eq_false_iff_ne]
            omega
          have HMO := Lib.hid (fun Y (h : RQ w tb j p Y) => more_any Y p j h.row h.cnt (by omega) h.nil S (by omega))
          rw [hSd] at HMO
          clear hSd hSs
          go_wp2_with fail
          refine wp_region_held_drew (S := fun _ => True) (by kernel_rfl) trivial (fun hHeld => ?_)
          have HY := Lib.hid (HQ.out.next (Below.refl _ _).drew)
          have hs0 := HY.out.t0
          have hs1 := HY.out.t1
          have hs2 := HY.out.t2
          obtain ⟨Y, hY⟩ : ∃ Y, Y = X.drew := ⟨_, rfl⟩
          rw [← hY] at HY hs0 hs1 hs2 ⊢
          clear hY t0 t1 t2 z0 z1 z2 o0 o1 o2 y0 y1 y2 hlt1 hlt2
          refine wpAnyH_take (i := 1) (v := .string s) rfl (by kernel_rfl) (by kernel_rfl) (by kernel_rfl) (fun _ _ _ h => h) (Or.inl ⟨by rfl, ?_⟩) (by assumption) ?_
          · intro w hSw
            go_simp
          show wpAnyH _ _ _ _ _ _ _ (Act.put _ (some 34) _) _
          simp only [Act.put, List.setIfInBounds_toArray, List.set_cons_zero, List.set_cons_succ]
          refine wpAnyH_take (i := 2) (v := .int .i64 (frL LF j)) rfl (by kernel_rfl) (by kernel_rfl) (by kernel_rfl) (fun _ _ _ h => h) (Or.inl ⟨by rfl, ?_⟩) (by assumption) ?_
          · intro w hSw
            go_simp
          show wpAnyH _ _ _ _ _ _ _ (Act.put _ (some 35) _) _
          simp only [Act.put, List.setIfInBounds_toArray, List.set_cons_zero, List.set_cons_succ]
          refine wpAnyH_take (i := 3) (v := .int .i64 k) rfl (by kernel_rfl) (by kernel_rfl) (by kernel_rfl) (fun _ _ _ h => h) (Or.inl ⟨by rfl, ?_⟩) (by assumption) ?_
          · intro w hSw
            go_simp
          show wpAnyH _ _ _ _ _ _ _ (Act.put _ (some 36) _) _
          simp only [Act.put, List.setIfInBounds_toArray, List.set_cons_zero, List.set_cons_succ]
          refine wpAnyH_take (i := 4) (v := .string S) rfl (by kernel_rfl) (by kernel_rfl) (by kernel_rfl) (fun _ _ _ h => h) (Or.inl ⟨by rfl, ?_⟩) (by assumption) ?_
          · intro w hSw
            go_simp
          show wpAnyH _ _ _ _ _ _ _ (Act.put _ (some 37) _) _
          simp only [Act.put, List.setIfInBounds_toArray, List.set_cons_zero, List.set_cons_succ]
          refine wpAnyH_ready (rs := [0]) (by kernel_rfl) (by simp) ?_
          refine AllReadyH.cons rfl (fun K hK => ?_) AllReadyH.nil
          go_simp
          refine hK.out _ _ trivial (fun hHeld => ?_)
          clear hK K
          refine wpAnyH_ready (rs := [5]) (by kernel_rfl) (by simp) ?_
          refine AllReadyH.cons rfl (fun K hK => ?_) AllReadyH.nil
          go_simp
          refine (HMO.out Y HY.out).mono ?_
          rintro e X2 ⟨p', b, rfl, hbv, hb2⟩
          have HN := Lib.hid (HY.out.next hb2)
          have hbv2 : (b = true ∧ StepL (conOf p) x (conOf p') ∧ ProtAt X2 X2.heap.size p' ∧ CntLe p' (j + 1) ∧ NilOk p' ∧ Far (tb + 1) p') ∨ (b = false ∧ ∀ d, ¬ StepL (conOf p) x d) := by
            rcases hbv with ⟨h1, h2, h3, h4, h5, h6⟩ | h
            · exact .inl ⟨h1, h2, h3, h4, h5, h6 (tb + 1) (by have := HY.out.lt; omega) HQ.out.far⟩
            · exact .inr h
          have HV := Lib.hid hbv2
          clear hs0 hs1 hs2 hbv hbv2 hb2
          have hS := HN.out
          have t0 := hS.t0
          have t1 := hS.t1
          have t2 := hS.t2
          have z0 := hS.z0
          have z1 := hS.z1
          have z2 := hS.z2
          have o0 := hS.o0
          have o1 := hS.o1
          have o2 := hS.o2
          have y0 := hS.y0
          have y1 := hS.y1
          have y2 := hS.y2
          have hlt1 : tb < X2.heap.size := hS.lt
          have hlt2 : w.heap.size < X2.heap.size := by have := hS.low; omega
          have hne1 : ¬ tb = w.heap.size := by have := hS.low; omega
          have hne2 : ¬ w.heap.size = tb := by have := hS.low; omega
          clear hS
          simp only [protV]
          go_simp
          refine hK.out _ _ trivial (fun hHeld => ?_)
          clear hK K
          refine wpAnyH_take (i := 6) (v := .tuple #[.agg #[.string p'.name, .int .i64 p'.ver, .slice p'.qA p'.qs.length p'.qc], .bool b]) rfl (by kernel_rfl) (by kernel_rfl) (by kernel_rfl) (fun _ _ _ h => h) (Or.inl ⟨by rfl, ?_⟩) (by assumption) ?_
          · intro w hSw
            go_simp
          show wpAnyH _ _ _ _ _ _ _ (Act.put _ (some 32) _) _
          simp only [Act.put, List.setIfInBounds_toArray, List.set_cons_zero, List.set_cons_succ]
          refine wpAnyH_take (i := 7) (v := .agg #[.string p'.name, .int .i64 p'.ver, .slice p'.qA p'.qs.length p'.qc]) rfl (by kernel_rfl) (by kernel_rfl) (by kernel_rfl) (fun _ _ _ h => h) (Or.inl ⟨by rfl, ?_⟩) (by assumption) ?_
          · intro w hSw
            go_simp
          show wpAnyH _ _ _ _ _ _ _ (Act.put _ (some 39) _) _
          simp only [Act.put, List.setIfInBounds_toArray, List.set_cons_zero, List.set_cons_succ]
          refine wpAnyH_take (i := 8) (v := .bool b) rfl (by kernel_rfl) (by kernel_rfl) (by kernel_rfl) (fun _ _ _ h => h) (Or.inl ⟨by rfl, ?_⟩) (by assumption) ?_
          · intro w hSw
            go_simp
          show wpAnyH _ _ _ _ _ _ _ (Act.put _ (some 40) _) _
          simp only [Act.put, List.setIfInBounds_toArray, List.set_cons_zero, List.set_cons_succ]
          refine wpAnyH_ready (rs := [9]) (by kernel_rfl) (by simp) ?_
          refine AllReadyH.cons rfl (fun K hK => ?_) AllReadyH.nil
          go_simp
          refine hK.out _ _ trivial (fun hHeld => ?_)
          clear hK K
          refine wpAnyH_take (i := 10) (v := .bool b) rfl (by kernel_rfl) (by kernel_rfl) (by kernel_rfl) (fun _ _ _ h => h) (Or.inl ⟨by rfl, ?_⟩) (by assumption) ?_
          · intro w hSw
            go_simp
          show wpAnyH _ _ _ _ _ _ _ (Act.put _ (some 9) _) _
          simp only [Act.put, List.setIfInBounds_toArray, List.set_cons_zero, List.set_cons_succ]
          refine wpAnyH_done (by kernel_rfl) ?_ _
          clear hHeld
          cases b with
          | true =>
            have HH : Hid (StepL (conOf p) x (conOf p') ∧ ProtAt X2 X2.heap.size p' ∧ CntLe p' (j + 1) ∧ NilOk p' ∧ Far (tb + 1) p') := Lib.hid (by
              rcases HV.out with ⟨_, h⟩ | ⟨h, _⟩
              · exact h
              · cases h)
            go_wp2_with fail
            go_roundw
            case rel => exact ⟨j + 1, k + 1, p', by go_num, by rw [HA.out.2.2]; go_num, by go_num, by omega, HA.out.1, stt_step HW.out.2.1 (by omega) HA.out.2.1 HH.out.1, HN.out.put HH.out.2.1 HH.out.2.2.2.2 HH.out.2.2.2.1 HH.out.2.2.1⟩
            case measure => simp [intOf]; omega
          | false =>
            have HH : Hid (∀ d, ¬ StepL (conOf p) x d) := Lib.hid (by
              rcases HV.out with ⟨h, _⟩ | ⟨_, h⟩
              · cases h
              · exact h)
            go_wp2_with fail
            refine bodyPost_ret (v := .tuple #[protV ⟨#[]⟩ 0 none 0 0, .int .i64 ((j : Int) + 1), .int .i64 2]) (by simp [results, Tryz.results14, go_sem, o0, o1, o2, protV]) rfl ?_
            exact ⟨noProt, _, _, rfl, ret_line HW.out.2.1 (by omega) HA.out.2.1 HH.out, no_at, no_cnt, below_set3 (below_set3 HN.out.below (Nat.le_of_lt HN.out.low) _ _ _) (Nat.le_refl _) _ _ _⟩
    · have hkk : k = s.size := by omega
      obtain ⟨hjj, hfr⟩ := at_end HT.out.1 HW.out.1 (by rw [HT.out.2.2.2]; omega)
      rw [HT.out.2.2.2] at hfr
      have HJ := Lib.hid (show Stt LF LF.length p from hjj ▸ HW.out.2.1)
      have HJJ := Lib.hid hjj
      by_cases hend : tF ≠ [] ∨ LF.length = 0
      · have HP := Lib.hid (ret_end HJ.out hend)
        have HPP : Hid (Parses LF tF empC ((j : Int) + 1) 2) := Lib.hid (by rw [HJJ.out]; exact HP.out)
        rcases hend with hend | hend
        · have htl : 0 < tF.length := by
            cases tF with
            | nil => exact absurd rfl hend
            | cons a b => simp
          have d1 : decide ((frL LF j : Int) < (s.size : Int)) = true := decide_eq_true (by omega)
          clear hend hjj hkk
          go_wp2_with fail
          refine bodyPost_ret (v := .tuple #[protV ⟨#[]⟩ 0 none 0 0, .int .i64 ((j : Int) + 1), .int .i64 2]) (by simp [results, Tryz.results14, go_sem, o0, o1, o2, protV]) rfl ?_
          exact ⟨noProt, _, _, rfl, HPP.out, no_at, no_cnt, below_set3 HQ.out.below (Nat.le_refl _) _ _ _⟩
        · have hj0 : j = 0 := by omega
          by_cases hd : frL LF j < s.size
          · have d1 : decide ((frL LF j : Int) < (s.size : Int)) = true := decide_eq_true (by omega)
            clear hend hjj hkk hj0
            go_wp2_with fail
            refine bodyPost_ret (v := .tuple #[protV ⟨#[]⟩ 0 none 0 0, .int .i64 ((j : Int) + 1), .int .i64 2]) (by simp [results, Tryz.results14, go_sem, o0, o1, o2, protV]) rfl ?_
            exact ⟨noProt, _, _, rfl, HPP.out, no_at, no_cnt, below_set3 HQ.out.below (Nat.le_refl _) _ _ _⟩
          · have d1 : decide ((frL LF j : Int) < (s.size : Int)) = false := decide_eq_false (by omega)
            have e2 : (((j : Int) + 1) == 1) = true := by
              rw [beq_iff_eq]
              omega
            clear hend hjj hkk hj0
            go_wp2_with fail
            refine bodyPost_ret (v := .tuple #[protV ⟨#[]⟩ 0 none 0 0, .int .i64 ((j : Int) + 1), .int .i64 2]) (by simp [results, Tryz.results14, go_sem, o0, o1, o2, protV]) rfl ?_
            exact ⟨noProt, _, _, rfl, HPP.out, no_at, no_cnt, below_set3 HQ.out.below (Nat.le_refl _) _ _ _⟩
      · have htn : tF = [] := Classical.byContradiction fun q => hend (.inl q)
        have hn0 : LF.length ≠ 0 := fun q => hend (.inr q)
        have HE := Lib.hid (And.intro htn hn0)
        have d1 : decide ((frL LF j : Int) < (s.size : Int)) = false := decide_eq_false (by rw [htn] at hfr; simp at hfr; omega)
        have e2 : (((j : Int) + 1) == 1) = false := by
          rw [beq_eq_false_iff_ne]
          omega
        have hd : ¬ frL LF j < s.size := by rw [htn] at hfr; simp at hfr; omega
        have HRT := Lib.hid (fun Y (h : RQ w tb j p Y) => right_any Y p h.row (stt_wf HW.out.2.1 (by omega) h.nil))
        clear hend htn hn0 hjj hkk hfr
        go_wp2_with fail
        refine (HRT.out _ HQ.out).mono ?_
        rintro e X2 ⟨a, b, hsy, rfl, hb2⟩
        have HN := Lib.hid (HQ.out.next hb2)
        clear t0 t1 t2 z0 z1 z2 o0 o1 o2 y0 y1 y2 hlt1 hlt2 hb2
        have hS := HN.out
        have t0 := hS.t0
        have t1 := hS.t1
        have t2 := hS.t2
        have z0 := hS.z0
        have z1 := hS.z1
        have z2 := hS.z2
        have o0 := hS.o0
        have o1 := hS.o1
        have o2 := hS.o2
        have y0 := hS.y0
        have y1 := hS.y1
        have y2 := hS.y2
        have hlt1 : tb < X2.heap.size := hS.lt
        have hlt2 : w.heap.size < X2.heap.size := by have := hS.low; omega
        have hne1 : ¬ tb = w.heap.size := by have := hS.low; omega
        have hne2 : ¬ w.heap.size = tb := by have := hS.low; omega
        clear hS
        rcases hsy.two with hb | hb
        · subst hb
          have HOK := Lib.hid (hsy.ok.1 rfl)
          clear hsy
          go_wp2_with fail
          refine bodyPost_ret (v := .tuple #[protV p.name p.ver p.qA p.qs.length p.qc, .int .i64 0, .int .i64 0]) (by simp [results, Tryz.results14, go_sem, o0, o1, o2, protV]) rfl ?_
          refine ⟨p, 0, 0, rfl, ret_fine HJ.out HE.out.2 HE.out.1 (ConOk.iff.2 HOK.out), prot_set3 HN.out.row (b := w.heap.size) (F := tb + 1) HN.out.far (by have := HN.out.low; omega) _ _ _, ⟨by have := HN.out.cnt.1; omega, fun q hq => by have := HN.out.cnt.2 q hq; omega⟩, below_set3 HN.out.below (Nat.le_refl _) _ _ _⟩
        · subst hb
          have HNO : Hid (¬ ConOk (conOf p)) := Lib.hid (fun h => by have := hsy.ok.2 (ConOk.iff.1 h); cases this)
          clear hsy
          go_wp2_with fail
          refine bodyPost_ret (v := .tuple #[protV ⟨#[]⟩ 0 none 0 0, .int .i64 0, .int .i64 1]) (by simp [results, Tryz.results14, go_sem, o0, o1, o2, protV]) rfl ?_
          exact ⟨noProt, _, _, rfl, ret_bad HJ.out HE.out.2 HE.out.1 HNO.out, no_at, no_cnt, below_set3 HN.out.below (Nat.le_refl _) _ _ _⟩
end Go.Proofs.YtbbklideciappaaGreatDoor
