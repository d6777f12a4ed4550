/-
  samaritanref31.Parse: the plan whose text it is, or ErrSyntax. samaritanref31.Same: true of plans that are the same.
-/
import Derived.Test.YtcpplebgocbnhaaDoorPrsP
import Derived.Deep.QuietTactic
import Derived.BigQuiet
namespace Go.Proofs.YtcpplebgocbnhaaDoor
open Go.RowKit Go.Maps

theorem text_same {p q : Plan} (h : SameP p q) : textP p = textP q := by
  obtain ⟨h1, h2, h3⟩ := h
  unfold textP wordsP
  rw [h1, h2, h3]
theorem plan_backR {L : List ByteArray} {n : Int} {A : Option Addr} {c : Nat} {u : ByteArray} {p : Plan} (hv : validB p = true) (e : L.map (·.data.toList) = wordsP p) (hu : L[2]? = some u) (hn : ∀ m : Int, 1 ≤ m → m ≤ 5 → u.data.toList = Lib.decDigits m.toNat → n = m) : SameP (planOf L n A c) p := by
  obtain ⟨_, _, _, u1, u2, _, _, hk⟩ := valid_parts hv
  have h4 : 3 ≤ L.length := by
    have := congrArg List.length e
    rw [List.length_map, words_len] at this
    omega
  match L, h4 with
  | x0 :: x1 :: x2 :: r, _ =>
    simp only [List.getElem?_cons_succ, List.getElem?_cons_zero, Option.some.injEq] at hu
    subst hu
    unfold wordsP at e
    simp only [List.map_cons, List.cons.injEq] at e
    obtain ⟨_, e1, e2, e3⟩ := e
    unfold planOf SameP
    simp only [List.getD_cons_succ, List.getD_cons_zero, List.drop_succ_cons, List.drop_zero]
    refine ⟨?_, hn _ u1 u2 e2, ?_⟩
    · rw [bs_of x1, bs_of p.code, e1]
    · have : r.map (fun x => kindNum x.data.toList) = (r.map (·.data.toList)).map kindNum := by rw [List.map_map]; rfl
      rw [this, e3, List.map_map]
      have h2 : p.kinds.map (kindNum ∘ kindName) = p.kinds.map id := List.map_congr_left fun k hk' => num_name (hk k hk')
      rw [h2, List.map_id]
theorem one_digit {u : ByteArray} (hu : u.size = 1) (m : Int) (h0 : 1 ≤ m) (h1 : m ≤ 5) (h : u.data.toList = Lib.decDigits m.toNat) : (u[0].toNat : Int) - 48 = m := by
  rw [dec_one (by omega) (by omega)] at h
  have e : u[0] = UInt8.ofNat (48 + m.toNat) := by
    have h2 : u.data.toList[0]? = some u[0] := by
      rw [List.getElem?_eq_getElem (by simp; omega)]
      rfl
    rw [h] at h2
    simpa using h2.symm
  rw [e, dig_toNat (by omega)]
  omega

theorem drewN_plus (w : World) (a b : Nat) : (w.drewN a).drewN b = w.drewN (a + b) := by
  simp [World.drewN, Nat.add_assoc]

/-- the kind found among the first names. -/
def foundTo (l : List UInt8) (k : Nat) : Int := if 1 ≤ kindNum l ∧ kindNum l < k then kindNum l else 0
theorem name_is {l : List UInt8} {k : Nat} (h0 : 1 ≤ k) (h1 : k ≤ 4) : kindName k = l ↔ kindNum l = k := by
  have hk : kindB (k : Int) = true := by unfold kindB; simp; omega
  constructor
  · intro e
    rw [← e]
    exact num_name hk
  · intro e
    have := name_num (l := l) (by rw [e]; exact hk)
    rw [e] at this
    exact this
theorem found_hit {l : List UInt8} {k : Nat} (h0 : 1 ≤ k) (h1 : k ≤ 4) (h : kindName k = l) : foundTo l (k + 1) = k := by
  have e := (name_is h0 h1).1 h
  unfold foundTo
  rw [e, if_pos (by omega)]
theorem found_miss {l : List UInt8} {k : Nat} (h0 : 1 ≤ k) (h1 : k ≤ 4) (h : ¬ kindName k = l) : foundTo l (k + 1) = foundTo l k := by
  have e : ¬ kindNum l = k := fun q => h ((name_is h0 h1).2 q)
  unfold foundTo
  by_cases q : 1 ≤ kindNum l ∧ kindNum l < k
  · rw [if_pos q, if_pos (by omega)]
  · rw [if_neg q, if_neg (by omega)]
theorem found_all (l : List UInt8) : foundTo l 5 = kindNum l := by
  have := kindNum_range l
  unfold foundTo
  by_cases q : 1 ≤ kindNum l ∧ kindNum l < (5 : Nat)
  · rw [if_pos q]
  · rw [if_neg q]
    omega

theorem KindsAt.next2 {L : List ByteArray} {x : ByteArray} {n : Int} {pb : Nat} {w3 : World} {k : Nat} {v v2 : Value} {wr wx w4 : World} {z : Int} {y : ByteArray} (h : KindsAt L x n pb w3 k v wr) (b1 : Below (pb + 1) wr wx)
    (hown : OwnI w4 (pb + 1) 3 v2 (kindsK L k ++ [z])) (hg : wx.grownBy w4 v.ownBlock) (hy : L[3 + k]? = some y) (hz : z = kindNum y.data.toList) : w4.cell? ⟨pb, 2, none⟩ = some v ∧ w4.frozen? ⟨pb, 2, none⟩ = false ∧ KindsAt L x n pb w3 (k + 1) v2 (w4.setCell ⟨pb, 2, none⟩ v2) := by
  have hlt := h.lt
  have hz1 : pb + 1 ≤ wx.heap.size := by have := b1.size; omega
  have b2 : Below (pb + 1) wr w4 := b1.grown hg hz1 (fun j hj => h.own.ge_base j hj)
  have e0 := (b2.cell (p := ⟨pb, 0, none⟩) (Nat.lt_succ_self _)).trans h.c0
  have e1 := (b2.cell (p := ⟨pb, 1, none⟩) (Nat.lt_succ_self _)).trans h.c1
  have e2 := (b2.cell (p := ⟨pb, 2, none⟩) (Nat.lt_succ_self _)).trans h.c2
  have e3 := (b2.frozen (p := ⟨pb, 2, none⟩) (Nat.lt_succ_self _)).trans h.f2
  refine ⟨e2, e3, ⟨?_, ?_, ?_, ?_, ?_, ?_, ?_⟩⟩
  · exact (World.cell?_setCell_other w4 ⟨pb, 2, none⟩ ⟨pb, 0, none⟩ v2 (by simp)).trans e0
  · exact (World.cell?_setCell_other w4 ⟨pb, 2, none⟩ ⟨pb, 1, none⟩ v2 (by simp)).trans e1
  · exact World.cell?_setCell_same' _ _ _ (by rw [e2]; rfl)
  · rw [World.frozen?_setCell]
    exact e3
  · rw [kindsK_succ hy, ← hz]
    exact hown.setCell_below (by show pb < pb + 1; omega) _
  · exact (h.below.trans (b2.mono (Nat.le_succ _))).setCell (p := ⟨pb, 2, none⟩) (Nat.le_refl _) _
  · have := b2.size
    show pb < (w4.setCell _ _).heap.size
    simp
    omega

set_option maxRecDepth 100000 in
set_option maxHeartbeats 4000000 in
theorem parseR31_any (s : ByteArray) (hs : s.size ≤ 1099511) (w : World) :
    Calls Tryd.prog 31 #[.string s] w (RetPlan s w) := by
  have HB0 := Lib.hid ((Below.refl w.heap.size w).alloc (Nat.le_refl _) (.cells #[.string ⟨#[]⟩, .int .i64 0, .slice none 0 0] 35))
  go_enter Tryd.func31, Tryd.ntmps31
  go_wp2_with fail
  refine (words_any s (by omega) _).mono ?_
  rintro e w1 ⟨v, L, rfl, hcut, hown, hbw⟩
  simp only [World.size_alloc] at hown hbw
  have hne : L ≠ [] := by
    intro q
    rw [q] at hcut
    exact cuts_ne [] _ hcut.symm
  have hLl : L.length ≤ s.size + 1 := by
    have h1 := congrArg List.length hcut
    have h2 := cuts_len [] s.data.toList
    rw [List.length_map] at h1
    simp at h2
    omega
  have hsm : ∀ x ∈ L, x.size ≤ s.size := by
    intro x hx
    have h1 : x.data.toList ∈ cutsFrom [] s.data.toList := by rw [← hcut]; exact List.mem_map.2 ⟨x, hx, rfl⟩
    have h2 := cuts_small [] s.data.toList _ h1
    simp at h2
    exact h2
  have hback : ∀ p : Plan, validB p = true → textP p = s.data.toList → L.map (·.data.toList) = wordsP p := by
    intro p hv ht
    rw [hcut, ← ht]
    exact cuts_text hv
  have hjoin : Lib.join (L.map (·.data.toList)) [32] = s.data.toList := by
    rw [hcut, join_cuts]
    rfl
  obtain ⟨g, N, hv, hg1, hg2, hq1, hq2⟩ := hown.form (k := 0) (z := L[0]'(List.length_pos_iff.2 hne)) (by simp)
  subst hv
  have hcell : ∀ (k : Nat) p, L[k]? = some p → w1.cell? ⟨g, k, none⟩ = some (.string p) := by
    intro k p hp
    obtain ⟨g', c', hv', _, _, hc', _⟩ := hown.form hp
    injection hv' with h1 h2 h3
    injection h1 with h1
    injection h1 with h1
    subst h1
    exact hc'
  have hb1 : Below w.heap.size w w1 := HB0.out.trans (hbw.mono (Nat.le_succ _))
  have r0 : w1.cell? ⟨w.heap.size, 0, none⟩ = some (.string ⟨#[]⟩) := (hbw.cell (p := ⟨w.heap.size, 0, none⟩) (Nat.lt_succ_self _)).trans (by simp)
  have r1 : w1.cell? ⟨w.heap.size, 1, none⟩ = some (.int .i64 0) := (hbw.cell (p := ⟨w.heap.size, 1, none⟩) (Nat.lt_succ_self _)).trans (by simp)
  have r2 : w1.cell? ⟨w.heap.size, 2, none⟩ = some (.slice none 0 0) := (hbw.cell (p := ⟨w.heap.size, 2, none⟩) (Nat.lt_succ_self _)).trans (by simp)
  have f0 : w1.frozen? ⟨w.heap.size, 0, none⟩ = false := (hbw.frozen (p := ⟨w.heap.size, 0, none⟩) (Nat.lt_succ_self _)).trans (by simp)
  have f1 : w1.frozen? ⟨w.heap.size, 1, none⟩ = false := (hbw.frozen (p := ⟨w.heap.size, 1, none⟩) (Nat.lt_succ_self _)).trans (by simp)
  have f2 : w1.frozen? ⟨w.heap.size, 2, none⟩ = false := (hbw.frozen (p := ⟨w.heap.size, 2, none⟩) (Nat.lt_succ_self _)).trans (by simp)
  have HCE := Lib.hid hcell
  have HB1 := Lib.hid hb1
  have HSM := Lib.hid hsm
  have HBK := Lib.hid hback
  have HJ := Lib.hid hjoin
  clear hq1 hq2 hcell hb1 hsm hback hjoin hcut hown hbw hne HB0
  by_cases h4 : L.length < 4
  · have hno : ∀ p : Plan, validB p = true → textP p ≠ s.data.toList := by
      intro p hv ht
      have e2 := congrArg List.length (HBK.out p hv ht)
      rw [List.length_map, words_len] at e2
      have := (valid_parts hv).2.2.2.2.2.1
      omega
    have HNO := Lib.hid hno
    clear hno
    have d1 : decide ((L.length : Int) < 4) = true := by simp; omega
    go_wp2_with fail
    refine bodyPost_ret (v := .tuple #[.agg #[.string ⟨#[]⟩, .int .i64 0, .slice none 0 0], .int .i64 2]) (by simp [results, Tryd.results31, go_sem, r0, r1, r2]) rfl (.inr ⟨rfl, HNO.out, (((HB1.out).setCell (p := ⟨w.heap.size, 0, none⟩) (Nat.le_refl _) _).setCell (p := ⟨w.heap.size, 1, none⟩) (Nat.le_refl _) _).setCell (p := ⟨w.heap.size, 2, none⟩) (Nat.le_refl _) _⟩)
  have d1 : decide ((L.length : Int) < 4) = false := by simp; omega
  have i2 : (2 : Int) < (L.length : Int) := by omega
  have i1 : (1 : Int) < (L.length : Int) := by omega
  obtain ⟨x, hx⟩ : ∃ x, L[1]? = some x := ⟨L[1]'(by omega), by simp⟩
  obtain ⟨u, hu⟩ : ∃ u, L[2]? = some u := ⟨L[2]'(by omega), by simp⟩
  have cx := HCE.out 1 x hx
  have cu := HCE.out 2 u hu
  have hxs := HSM.out x (List.mem_of_getElem? hx)
  have hus := HSM.out u (List.mem_of_getElem? hu)
  have HX := Lib.hid hx
  have HU := Lib.hid hu
  clear hx hu
  by_cases hu1 : u.size = 1
  rotate_left
  · have hno : ∀ p : Plan, validB p = true → textP p ≠ s.data.toList := by
      intro p hv ht
      have e2 := get_map HU.out
      rw [HBK.out p hv ht] at e2
      unfold wordsP at e2
      simp only [List.getElem?_cons_succ, List.getElem?_cons_zero, Option.some.injEq] at e2
      obtain ⟨_, _, _, u1, u2, _⟩ := valid_parts hv
      rw [dec_one (by omega) (by omega)] at e2
      have e3 := congrArg List.length e2
      simp at e3
      omega
    have HNO := Lib.hid hno
    clear hno
    have d3 : ((u.size : Int) == 1) = false := by simp; omega
    have d4 : ((u.size : Int) != 1) = true := by simp; omega
    go_wp2_with fail
    refine bodyPost_ret (v := .tuple #[.agg #[.string ⟨#[]⟩, .int .i64 0, .slice none 0 0], .int .i64 2]) (by simp [results, Tryd.results31, go_sem, r0, r1, r2]) rfl (.inr ⟨rfl, HNO.out, (((HB1.out).setCell (p := ⟨w.heap.size, 0, none⟩) (Nat.le_refl _) _).setCell (p := ⟨w.heap.size, 1, none⟩) (Nat.le_refl _) _).setCell (p := ⟨w.heap.size, 2, none⟩) (Nat.le_refl _) _⟩)
  have d3 : ((u.size : Int) == 1) = true := by simp; omega
  have d4 : ((u.size : Int) != 1) = false := by simp; omega
  have hn255 : u[0].toNat ≤ 255 := by have := u[0].toNat_lt; omega
  have hi0 : (0 : Int) < (u.size : Int) := by omega
  have HU1 := Lib.hid hu1
  have HDIG := Lib.hid (one_digit hu1)
  go_wp2_with fail
  go_region
  obtain ⟨n, hnn⟩ : ∃ n : Int, (u[0].toNat : Int) - 48 = n := ⟨_, rfl⟩
  have HD2 : Hid (∀ m : Int, 1 ≤ m → m ≤ 5 → u.data.toList = Lib.decDigits m.toNat → n = m) := Lib.hid (fun m a b c => hnn.symm.trans (HDIG.out m a b c))
  simp only [hnn]
  have nb0 : -48 ≤ n := by omega
  have nb1 : n ≤ 255 := by omega
  have hst : KindsAt L x n w1.heap.size w1 0 (.slice none 0 0) (w1.alloc (.cells #[.string x, .int .i64 n, .slice none 0 0] 35)).drew :=
    ⟨by simp, by simp, by simp, by simp, OwnV.nil _ _ _, ((Below.refl _ _).alloc (Nat.le_refl _) _).drew, by simp [World.drew]⟩
  have HST := Lib.hid hst
  have hML : L.length - 3 + 3 = L.length := by omega
  obtain ⟨M, hM⟩ : ∃ M, M = L.length - 3 := ⟨_, rfl⟩
  rw [← hM] at hML
  have hMs : M ≤ s.size + 1 := by omega
  have HML := Lib.hid hML
  generalize (w1.alloc (.cells #[.string x, .int .i64 n, .slice none 0 0] 35)).drew = w3 at *
  have hLM : (L.length : Int) = (M : Int) + 3 := by omega
  have HLM := Lib.hid hLM
  clear hM hst hML hLM hnn
  go_wp2_with fail
  go_loopw [6] (fun iv wr => ∃ k : Nat, k ≤ M ∧ iv = .int .i64 ((3 + k : Nat) : Int) ∧ ∃ v, KindsAt L x n w1.heap.size w1 k v wr) (fun i _ => 3 + M - (intOf i).toNat)
  case atStart => exact ⟨0, Nat.zero_le _, rfl, _, HST.out⟩
  case round =>
    obtain ⟨k, hk, rfl, v, hat⟩ := hrel
    have HAT := Lib.hid hat
    clear hat
    by_cases hlt : k < M
    · obtain ⟨y, hy⟩ : ∃ y, L[3 + k]? = some y := ⟨L[3 + k]'(by rw [← HML.out]; omega), by simp⟩
      have cy : wr.cell? ⟨g, 3 + k, none⟩ = some (.string y) := (HAT.out.below.cell (p := ⟨g, 3 + k, none⟩) hg2).trans (HCE.out _ _ hy)
      have HY := Lib.hid hy
      have hl1 : decide (((3 + k : Nat) : Int) < (L.length : Int)) = true := by rw [HLM.out]; simp; omega
      have hl2 : 3 + k < L.length := by rw [← HML.out]; omega
      clear hy
      obtain ⟨wo, rfl⟩ : ∃ wo : World, wo = wr := ⟨_, rfl⟩
      go_wp2_with fail
      go_loopw [7, 8] (fun kd kv wi => ∃ j : Nat, 1 ≤ j ∧ j ≤ 5 ∧ kv = .int .i64 j ∧ kd = .int .i64 (foundTo y.data.toList j) ∧ ∃ q, wi = wo.drewN q) (fun _ i _ => 5 - (intOf i).toNat)
      case atStart => exact ⟨1, by omega, by omega, rfl, by unfold foundTo; rw [if_neg (by omega)], 0, rfl⟩
      case round =>
        obtain ⟨j, hj1, hj5, rfl, rfl, q, hwi⟩ := hrel
        have cyi : wr.cell? ⟨g, 3 + k, none⟩ = some (.string y) := by rw [hwi]; exact cy
        have HWI := Lib.hid hwi
        clear hwi
        by_cases hj : j ≤ 4
        · by_cases hw : kindName j = y.data.toList
          · have HF := Lib.hid (found_hit hj1 hj hw)
            have e1 : ((bs (kindName j)).toList == y.toList) = true := by rw [toL_bs, toL, hw, beq_self_eq_true]
            clear hw
            go_wp2_with fail
            go_quiet ((go_at_call 50; refine Calls.quiet_of_same ((word_any _ _).mono fun _ _ q => ⟨q.1, q.2.symm⟩)))
            go_wp2_with fail
            go_roundw
            case rel =>
              refine ⟨j + 1, by omega, by omega, by go_num, by rw [HF.out], q + nq, ?_⟩
              rw [HWI.out]
              exact drewN_plus _ _ _
            case measure => simp [intOf]; omega
          · have HF := Lib.hid (found_miss hj1 hj hw)
            have e1 : ((bs (kindName j)).toList == y.toList) = false := by rw [toL_bs, toL, beq_eq_false_iff_ne]; exact hw
            clear hw
            go_wp2_with fail
            go_quiet ((go_at_call 50; refine Calls.quiet_of_same ((word_any _ _).mono fun _ _ q => ⟨q.1, q.2.symm⟩)))
            go_wp2_with fail
            go_roundw
            case rel =>
              refine ⟨j + 1, by omega, by omega, by go_num, by rw [HF.out], q + nq, ?_⟩
              rw [HWI.out]
              exact drewN_plus _ _ _
            case measure => simp [intOf]; omega
        · have hj55 : j = 5 := by omega
          subst hj55
          rw [found_all]
          have hz4 := kindNum_range y.data.toList
          have e2 : wr.cell? ⟨w1.heap.size, 2, none⟩ = some v := by rw [HWI.out]; exact HAT.out.c2
          have ef : wr.frozen? ⟨w1.heap.size, 2, none⟩ = false := by rw [HWI.out]; exact HAT.out.f2
          have hown : OwnI wr (w1.heap.size + 1) 3 v (kindsK L k) := by rw [HWI.out]; exact HAT.out.own.drewN q
          have hb1 : Below (w1.heap.size + 1) wo wr := by rw [HWI.out]; exact (below_drewN wo q).mono (by have := HAT.out.lt; omega)
          have hpz : w1.heap.size < wr.heap.size := by have := HAT.out.lt; have := hb1.size; omega
          have HB4 := Lib.hid hb1
          have HLK := Lib.hid (kindsK_len L k)
          clear hb1
          go_wp2_with (at_builtin; refine wpList_append_int _ rfl _ _ 33 rfl (w1.heap.size + 1) 3 Tryd.underlying33 int_info _ _ wr (kindNum y.data.toList) rfl rfl hown rfl (by have := HLK.out; omega) (by omega) ?_; intro v2 w4 hown2 hg; obtain ⟨A2, c2, rfl, _⟩ := hown2.sl; obtain ⟨t1, t2, t3⟩ := HAT.out.next2 HB4.out hown2 hg HY.out rfl; have HT3 := Lib.hid t3; clear t3 hown2 hg)
          go_roundw
          case rel =>
            have h := HT3.out
            rw [show (kindsK L k ++ [kindNum y.data.toList]).length = (kindsK L k).length + 1 by simp] at h
            exact ⟨k + 1, by omega, by go_num, _, h⟩
          case measure => simp [intOf]; omega
    · have hkk : k = M := by omega
      subst hkk
      have hl1 : decide (((3 + k : Nat) : Int) < (L.length : Int)) = false := by rw [HLM.out]; simp; omega
      have hl2 : ¬ 3 + k < L.length := by rw [← HML.out]; omega
      obtain ⟨A, c, rfl, hsl⟩ := HAT.out.own.sl
      obtain ⟨hc1, hc2, hc3⟩ := HAT.out.own.caps
      have HAW : Hid (∀ b o, A = some ⟨b, o, none⟩ → b ≠ w.heap.size) := Lib.hid (fun b o e => by subst e; have := HAT.out.own.ge_base b rfl; have := HB1.out.size; omega)
      have hkf : kindsK L k = (L.drop 3).map (fun x => kindNum x.data.toList) := by
        unfold kindsK
        rw [List.take_of_length_le (by rw [List.length_drop, ← HML.out]; omega)]
      have hcode : (planOf L n A c).code = x := by
        unfold planOf
        simp [HX.out]
      have hkin : (planOf L n A c).kinds = kindsK L k := by rw [hkf]; rfl
      have hwf : PlanWf (planOf L n A c) := by
        refine ⟨?_, wf64 (show -9223372036854775808 ≤ n by omega) (show n ≤ 9223372036854775807 by omega), ?_, ?_, hc2, hc3⟩
        · rw [hkin]; exact kindsK_wf L k
        · rw [hcode]; omega
        · rw [hkin]; exact hc1
      have hslp : Sl wr wr.heap.size (planOf L n A c).kA ((planOf L n A c).kinds.map (Value.int .i64)) := by rw [hkin]; exact hsl
      have htext := text31_any (planOf L n A c) wr hslp hwf
      have hB := HAT.out.below
      have e0 := HAT.out.c0
      have e1 := HAT.out.c1
      have e2 := HAT.out.c2
      have hz1 : w.heap.size < w1.heap.size := by omega
      have q0 : wr.cell? ⟨w.heap.size, 0, none⟩ = some (.string ⟨#[]⟩) := (hB.cell (p := ⟨w.heap.size, 0, none⟩) hz1).trans r0
      have q1 : wr.cell? ⟨w.heap.size, 1, none⟩ = some (.int .i64 0) := (hB.cell (p := ⟨w.heap.size, 1, none⟩) hz1).trans r1
      have q2 : wr.cell? ⟨w.heap.size, 2, none⟩ = some (.slice none 0 0) := (hB.cell (p := ⟨w.heap.size, 2, none⟩) hz1).trans r2
      have l0 : wr.frozen? ⟨w.heap.size, 0, none⟩ = false := (hB.frozen (p := ⟨w.heap.size, 0, none⟩) hz1).trans f0
      have l1 : wr.frozen? ⟨w.heap.size, 1, none⟩ = false := (hB.frozen (p := ⟨w.heap.size, 1, none⟩) hz1).trans f1
      have l2 : wr.frozen? ⟨w.heap.size, 2, none⟩ = false := (hB.frozen (p := ⟨w.heap.size, 2, none⟩) hz1).trans f2
      have hzr : w.heap.size < wr.heap.size := by have := hB.size; omega
      have hpz := HAT.out.lt
      have HBR := Lib.hid (HB1.out.trans (hB.mono (by omega)))
      have HWF := Lib.hid hwf
      have HSLP := Lib.hid hslp
      have HCODE := Lib.hid hcode
      have HKIN := Lib.hid (show (planOf L n A c).kinds.length = (kindsK L k).length by rw [hkin])
      rw [hcode, show (planOf L n A c).kinds.length = (kindsK L k).length by rw [hkin]] at htext
      have htext2 : Calls Tryd.prog 28 #[.agg #[.string x, .int .i64 n, .slice A (kindsK L k).length c]] wr (RetText (planOf L n A c) wr) := htext
      have HTX := Lib.hid htext2
      clear htext htext2 hkf hcode hkin hwf hslp hsl hB r0 r1 r2 f0 f1 f2 cx cu d1 d3 d4
      cases hv : validB (planOf L n A c)
      · have HV := Lib.hid hv
        clear hv
        have hno : ∀ p : Plan, validB p = true → textP p ≠ s.data.toList := by
          intro p hv ht
          have h1 := valid_same (plan_backR (A := A) (c := c) hv (HBK.out p hv ht) HU.out (fun m a b c' => HD2.out m a b c'))
          rw [HV.out, hv] at h1
          cases h1
        have HNO := Lib.hid hno
        clear hno
        go_wp2_with fail
        refine HTX.out.mono ?_
        rintro e w6 ⟨he, hb6⟩
        rw [HV.out] at he
        obtain rfl : e = .returned (.tuple #[.string ⟨#[]⟩, .int .i64 1]) := he
        have p0 : w6.cell? ⟨w.heap.size, 0, none⟩ = some (.string ⟨#[]⟩) := (hb6.cell (p := ⟨w.heap.size, 0, none⟩) hzr).trans q0
        have p1 : w6.cell? ⟨w.heap.size, 1, none⟩ = some (.int .i64 0) := (hb6.cell (p := ⟨w.heap.size, 1, none⟩) hzr).trans q1
        have p2 : w6.cell? ⟨w.heap.size, 2, none⟩ = some (.slice none 0 0) := (hb6.cell (p := ⟨w.heap.size, 2, none⟩) hzr).trans q2
        have m0 : w6.frozen? ⟨w.heap.size, 0, none⟩ = false := (hb6.frozen (p := ⟨w.heap.size, 0, none⟩) hzr).trans l0
        have m1 : w6.frozen? ⟨w.heap.size, 1, none⟩ = false := (hb6.frozen (p := ⟨w.heap.size, 1, none⟩) hzr).trans l1
        have m2 : w6.frozen? ⟨w.heap.size, 2, none⟩ = false := (hb6.frozen (p := ⟨w.heap.size, 2, none⟩) hzr).trans l2
        have o0 : w6.cell? ⟨w1.heap.size, 0, none⟩ = some (.string x) := (hb6.cell (p := ⟨w1.heap.size, 0, none⟩) hpz).trans e0
        have o1 : w6.cell? ⟨w1.heap.size, 1, none⟩ = some (.int .i64 n) := (hb6.cell (p := ⟨w1.heap.size, 1, none⟩) hpz).trans e1
        have o2 : w6.cell? ⟨w1.heap.size, 2, none⟩ = some (.slice A (kindsK L k).length c) := (hb6.cell (p := ⟨w1.heap.size, 2, none⟩) hpz).trans e2
        have HB6 := Lib.hid (below_then HBR.out hb6)
        have HSL6 := Lib.hid ((HSLP.out.below hb6).more hb6.size)
        clear hb6 q0 q1 q2 l0 l1 l2 e0 e1 e2
        go_wp2_with fail
        refine bodyPost_ret (v := .tuple #[.agg #[.string ⟨#[]⟩, .int .i64 0, .slice none 0 0], .int .i64 2]) (by simp [results, Tryd.results31, go_sem, p0, p1, p2]) rfl (.inr ⟨rfl, HNO.out, (((HB6.out).setCell (p := ⟨w.heap.size, 0, none⟩) (Nat.le_refl _) _).setCell (p := ⟨w.heap.size, 1, none⟩) (Nat.le_refl _) _).setCell (p := ⟨w.heap.size, 2, none⟩) (Nat.le_refl _) _⟩)
      · have HV := Lib.hid hv
        by_cases ht : textP (planOf L n A c) = s.data.toList
        · have HT := Lib.hid ht
          have d6 : ((bs (textP (planOf L n A c))).toList == s.toList) = true := by rw [toL_bs, toL, ht, beq_self_eq_true]
          clear hv ht
          go_wp2_with fail
          refine HTX.out.mono ?_
          rintro e w6 ⟨he, hb6⟩
          rw [HV.out] at he
          obtain rfl : e = .returned (.tuple #[.string (bs (textP (planOf L n A c))), .int .i64 0]) := he
          have p0 : w6.cell? ⟨w.heap.size, 0, none⟩ = some (.string ⟨#[]⟩) := (hb6.cell (p := ⟨w.heap.size, 0, none⟩) hzr).trans q0
          have p1 : w6.cell? ⟨w.heap.size, 1, none⟩ = some (.int .i64 0) := (hb6.cell (p := ⟨w.heap.size, 1, none⟩) hzr).trans q1
          have p2 : w6.cell? ⟨w.heap.size, 2, none⟩ = some (.slice none 0 0) := (hb6.cell (p := ⟨w.heap.size, 2, none⟩) hzr).trans q2
          have m0 : w6.frozen? ⟨w.heap.size, 0, none⟩ = false := (hb6.frozen (p := ⟨w.heap.size, 0, none⟩) hzr).trans l0
          have m1 : w6.frozen? ⟨w.heap.size, 1, none⟩ = false := (hb6.frozen (p := ⟨w.heap.size, 1, none⟩) hzr).trans l1
          have m2 : w6.frozen? ⟨w.heap.size, 2, none⟩ = false := (hb6.frozen (p := ⟨w.heap.size, 2, none⟩) hzr).trans l2
          have o0 : w6.cell? ⟨w1.heap.size, 0, none⟩ = some (.string x) := (hb6.cell (p := ⟨w1.heap.size, 0, none⟩) hpz).trans e0
          have o1 : w6.cell? ⟨w1.heap.size, 1, none⟩ = some (.int .i64 n) := (hb6.cell (p := ⟨w1.heap.size, 1, none⟩) hpz).trans e1
          have o2 : w6.cell? ⟨w1.heap.size, 2, none⟩ = some (.slice A (kindsK L k).length c) := (hb6.cell (p := ⟨w1.heap.size, 2, none⟩) hpz).trans e2
          have HB6 := Lib.hid (below_then HBR.out hb6)
          have HSL6 := Lib.hid ((HSLP.out.below hb6).more hb6.size)
          clear hb6 q0 q1 q2 l0 l1 l2 e0 e1 e2
          go_wp2_with fail
          refine bodyPost_ret (v := .tuple #[.agg #[.string x, .int .i64 n, .slice A (kindsK L k).length c], .int .i64 0]) (by simp [results, Tryd.results31, go_sem, p0, p1, p2]) rfl (.inl ⟨planOf L n A c, ?_, HV.out, HT.out, HWF.out, ?_, ?_⟩)
          · rw [HCODE.out, HKIN.out]
            rfl
          · have h := ((HSL6.out.setCell_away (a := ⟨w.heap.size, 0, none⟩) HAW.out (.string x)).setCell_away (a := ⟨w.heap.size, 1, none⟩) HAW.out (.int .i64 n)).setCell_away (a := ⟨w.heap.size, 2, none⟩) HAW.out (.slice A (kindsK L k).length c)
            refine h.more ?_
            simp
          · exact ((HB6.out.setCell (p := ⟨w.heap.size, 0, none⟩) (Nat.le_refl _) _).setCell (p := ⟨w.heap.size, 1, none⟩) (Nat.le_refl _) _).setCell (p := ⟨w.heap.size, 2, none⟩) (Nat.le_refl _) _
        · have hno : ∀ p : Plan, validB p = true → textP p ≠ s.data.toList := by
            intro p hv ht2
            have h1 := text_same (plan_backR (A := A) (c := c) hv (HBK.out p hv ht2) HU.out (fun m a b c' => HD2.out m a b c'))
            exact ht (h1.trans ht2)
          have HNO := Lib.hid hno
          clear hno
          have d6 : ((bs (textP (planOf L n A c))).toList == s.toList) = false := by rw [toL_bs, toL, beq_eq_false_iff_ne]; exact ht
          clear hv ht
          go_wp2_with fail
          refine HTX.out.mono ?_
          rintro e w6 ⟨he, hb6⟩
          rw [HV.out] at he
          obtain rfl : e = .returned (.tuple #[.string (bs (textP (planOf L n A c))), .int .i64 0]) := he
          have p0 : w6.cell? ⟨w.heap.size, 0, none⟩ = some (.string ⟨#[]⟩) := (hb6.cell (p := ⟨w.heap.size, 0, none⟩) hzr).trans q0
          have p1 : w6.cell? ⟨w.heap.size, 1, none⟩ = some (.int .i64 0) := (hb6.cell (p := ⟨w.heap.size, 1, none⟩) hzr).trans q1
          have p2 : w6.cell? ⟨w.heap.size, 2, none⟩ = some (.slice none 0 0) := (hb6.cell (p := ⟨w.heap.size, 2, none⟩) hzr).trans q2
          have m0 : w6.frozen? ⟨w.heap.size, 0, none⟩ = false := (hb6.frozen (p := ⟨w.heap.size, 0, none⟩) hzr).trans l0
          have m1 : w6.frozen? ⟨w.heap.size, 1, none⟩ = false := (hb6.frozen (p := ⟨w.heap.size, 1, none⟩) hzr).trans l1
          have m2 : w6.frozen? ⟨w.heap.size, 2, none⟩ = false := (hb6.frozen (p := ⟨w.heap.size, 2, none⟩) hzr).trans l2
          have o0 : w6.cell? ⟨w1.heap.size, 0, none⟩ = some (.string x) := (hb6.cell (p := ⟨w1.heap.size, 0, none⟩) hpz).trans e0
          have o1 : w6.cell? ⟨w1.heap.size, 1, none⟩ = some (.int .i64 n) := (hb6.cell (p := ⟨w1.heap.size, 1, none⟩) hpz).trans e1
          have o2 : w6.cell? ⟨w1.heap.size, 2, none⟩ = some (.slice A (kindsK L k).length c) := (hb6.cell (p := ⟨w1.heap.size, 2, none⟩) hpz).trans e2
          have HB6 := Lib.hid (below_then HBR.out hb6)
          have HSL6 := Lib.hid ((HSLP.out.below hb6).more hb6.size)
          clear hb6 q0 q1 q2 l0 l1 l2 e0 e1 e2
          go_wp2_with fail
          refine bodyPost_ret (v := .tuple #[.agg #[.string ⟨#[]⟩, .int .i64 0, .slice none 0 0], .int .i64 2]) (by simp [results, Tryd.results31, go_sem, p0, p1, p2]) rfl (.inr ⟨rfl, HNO.out, (((HB6.out).setCell (p := ⟨w.heap.size, 0, none⟩) (Nat.le_refl _) _).setCell (p := ⟨w.heap.size, 1, none⟩) (Nat.le_refl _) _).setCell (p := ⟨w.heap.size, 2, none⟩) (Nat.le_refl _) _⟩)

def RetTrue (w : World) (e : Ending) (w' : World) : Prop := e = .returned (.bool true) ∧ Below w.heap.size w w'
set_option maxRecDepth 100000 in
set_option maxHeartbeats 1000000 in
theorem same31_any (p q : Plan) (w : World) (hp : Sl w w.heap.size p.kA (p.kinds.map (Value.int .i64))) (hq : Sl w w.heap.size q.kA (q.kinds.map (Value.int .i64))) (hwp : PlanWf p) (h : SameP p q) :
    Calls Tryd.prog 30 #[.agg #[.string p.code, .int .i64 p.urg, .slice p.kA p.kinds.length p.kc], .agg #[.string q.code, .int .i64 q.urg, .slice q.kA q.kinds.length q.kc]] w (RetTrue w) := by
  obtain ⟨pc, pu, pA, pk, pn⟩ := p
  obtain ⟨qc, qu, qA, qk, qn⟩ := q
  obtain ⟨h1, h2, h3⟩ := h
  simp only at h1 h2 h3 hp hq ⊢
  subst h1 h2 h3
  have hkl := hwp.len
  have hkc := hwp.cap
  simp only at hkl hkc
  have HB : Hid (∀ o1 o2 : Obj, Below w.heap.size w ((w.alloc o1).alloc o2)) := Lib.hid (fun o1 o2 => ((Below.refl w.heap.size w).alloc (Nat.le_refl _) o1).alloc (by simp) o2)
  have HP := Lib.hid hp
  have HQ := Lib.hid hq
  have t1 : (pc.toList == pc.toList) = true := by simp
  have t2 : (pu == pu) = true := by simp
  by_cases hpk : pk = []
  · subst hpk
    clear hp hq hwp
    go_enter Tryd.func30, Tryd.ntmps30
    go_wp2_with fail
    refine wp_loop_rounds 1 ?_
    rw [rounds_succ]
    go_wp2_with fail
    go_ret
    exact ⟨rfl, HB.out _ _⟩
  · have hl0 : 0 < pk.length := List.length_pos_iff.2 hpk
    obtain ⟨b, o, hA, _, _⟩ := hp.int (j := 0) (z := pk[0]) (by simp)
    obtain ⟨b', o', hA', _, _⟩ := hq.int (j := 0) (z := pk[0]) (by simp)
    subst hA hA'
    clear hp hq hwp hpk
    go_enter Tryd.func30, Tryd.ntmps30
    go_wp2_with fail
    go_loopw [5] (fun iv wr => ∃ k : Nat, k ≤ pk.length ∧ iv = .int .i64 k ∧ ∃ q, wr = ((w.alloc (.cells #[.string pc, .int .i64 pu, .slice (some ⟨b, o, none⟩) pk.length pn] 35)).alloc (.cells #[.string pc, .int .i64 pu, .slice (some ⟨b', o', none⟩) pk.length qn] 35)).drewN q) (fun i _ => pk.length - (intOf i).toNat)
    case atStart => exact ⟨0, Nat.zero_le _, rfl, 0, rfl⟩
    case round =>
      obtain ⟨k, hk, rfl, q, hwr⟩ := hrel
      have g1 : wr.cell? ⟨w.heap.size, 2, none⟩ = some (.slice (some ⟨b, o, none⟩) pk.length pn) := by rw [hwr]; simp
      have g2 : wr.cell? ⟨w.heap.size + 1, 2, none⟩ = some (.slice (some ⟨b', o', none⟩) pk.length qn) := by rw [hwr]; simp
      have hbr : Below w.heap.size w wr := by rw [hwr]; exact below_then (HB.out _ _) (below_drewN _ _)
      have HWR := Lib.hid hwr
      have HBR := Lib.hid hbr
      clear hwr hbr
      by_cases hlt : k < pk.length
      · obtain ⟨z, hz⟩ : ∃ z, pk[k]? = some z := ⟨pk[k], by simp⟩
        obtain ⟨b1, o1, h1, hl1, c1⟩ := HP.out.int hz
        obtain ⟨b2, o2, h2, hl2, c2⟩ := HQ.out.int hz
        injection h1 with h1
        injection h1 with h3 h4
        injection h2 with h2
        injection h2 with h5 h6
        subst h3 h4 h5 h6
        have d1 : wr.cell? ⟨b, o + k, none⟩ = some (.int .i64 z) := (HBR.out.cell (p := ⟨b, o + k, none⟩) hl1).trans c1
        have d2 : wr.cell? ⟨b', o' + k, none⟩ = some (.int .i64 z) := (HBR.out.cell (p := ⟨b', o' + k, none⟩) hl2).trans c2
        have hlI : (k : Int) < (pk.length : Int) := by omega
        clear hz c1 c2 hl1 hl2
        go_wp2_with fail
        go_quiet (fail)
        go_wp2_with fail
        go_roundw
        case rel =>
          refine ⟨k + 1, by omega, by go_num, q + nq, ?_⟩
          rw [HWR.out]
          exact drewN_plus _ _ _
        case measure => simp [intOf]; omega
      · have hkk : k = pk.length := by omega
        subst hkk
        go_wp2_with fail
        go_ret
        exact ⟨rfl, HBR.out⟩
end Go.Proofs.YtcpplebgocbnhaaDoor
