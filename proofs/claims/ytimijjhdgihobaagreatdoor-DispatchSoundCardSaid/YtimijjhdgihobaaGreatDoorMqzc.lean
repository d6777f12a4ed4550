/-
  assignment: solve, Solve.
  dispatch.candidates, plain and memory: the matrix that CostMatrix returns; the columns that are considered.
  dispatch.candidates, plain: the picked costs are the costs of the candidates.
  (XOnly over XQueue's Only.) What existed is as it was, but for some blocks; a family of slices of structs, each stored in a cell of its own, and one append to one of them.
  No condition: plain lemmas over whatever program.
  The rows of a made slice of slices of numbers, as a family (XFam).
-/
import Derived.Test.YtimijjhdgihobaaGreatDoorMqz
import Derived.Test.YtimijjhdgihobaaGreatDoorMqy
import Derived.Test.YtimijjhdgihobaaGreatDoorMqza
import Derived.Test.YtimijjhdgihobaaGreatDoorMqzb
import Derived.Test.YtimijjhdgihobaaGreatDoorMqj
import Derived.Test.YtimijjhdgihobaaGreatDoorMqe
import Derived.Deep.AppendLies
namespace Go.Proofs.YtimijjhdgihobaaGreatDoor
section
open Go.RowKit Go.Maps

/-- which rows have columns below k. -/
def ColR (R : Nat) (p : Nat → Nat) (m : Nat → Int) (k : Nat) : Prop := ∀ i, i < R → (∃ j, j < k ∧ p j = i ∧ m i = (j : Int)) ∨ (m i = -1 ∧ ∀ j, j < k → p j ≠ i)
theorem ColR.start {R : Nat} {p : Nat → Nat} {m : Nat → Int} (h : ∀ i, i < R → m i = -1) : ColR R p m 0 := fun i hi => .inr ⟨h i hi, fun j hj => by omega⟩
theorem ColR.put {R N : Nat} {p : Nat → Nat} {m : Nat → Int} {k : Nat} (_hp : Inj p N N) (_hk : k < N) (h : ColR R p m k) : ColR R p (putF m (p k) (k : Int)) (k + 1) := by
  intro i hi
  by_cases e : i = p k
  · exact .inl ⟨k, by omega, e.symm, by rw [e, putF_eq]⟩
  · rw [putF_ne _ e]
    rcases h i hi with ⟨j, h1, h2, h3⟩ | ⟨h1, h2⟩
    · exact .inl ⟨j, by omega, h2, h3⟩
    · refine .inr ⟨h1, fun j hj e2 => ?_⟩
      by_cases e3 : j = k
      · subst e3; exact e e2.symm
      · exact h2 j (by omega) e2
theorem ColR.skip {R : Nat} {p : Nat → Nat} {m : Nat → Int} {k : Nat} (hr : R ≤ p k) (h : ColR R p m k) : ColR R p m (k + 1) := by
  intro i hi
  rcases h i hi with ⟨j, h1, h2, h3⟩ | ⟨h1, h2⟩
  · exact .inl ⟨j, by omega, h2, h3⟩
  · refine .inr ⟨h1, fun j hj e2 => ?_⟩
    by_cases e3 : j = k
    · subst e3; omega
    · exact h2 j (by omega) e2
/-- what solve returns. -/
def RetSol (X : World) (M : List (List Int)) (R K : Nat) (v : Value) (X' : World) : Prop :=
  ∃ b m, v = .slice (some ⟨b, 0, none⟩) R R ∧ X.heap.size ≤ b ∧ BlkI X' b 3 m ∧ m.length = R ∧ Bst (cF M) R K (mF m) ∧ Below X.heap.size X X'
set_option maxRecDepth 100000 in
set_option maxHeartbeats 16000000 in
theorem solve_any (X : World) (A : Option Addr) (c : Nat) (M : List (List Int)) (R K : Nat) (hR : M.length = R) (h0 : 0 < R) (h64 : R ≤ 64) (k64 : K ≤ 64) (hK : ∀ l ∈ M, l.length = K) (hC : ∀ l ∈ M, ∀ x ∈ l, isC x) (hat : MatAt X X.heap.size A M) :
    Calls Tryz.prog 57 #[.slice A R c, .int .i64 K] X fun e X' => ∃ v t, e = .returned (.tuple #[v, .int .i64 t]) ∧ RetSol X M R K v X' := by
  have hA : ∃ ab ao, A = some ⟨ab, ao, none⟩ := by
    obtain ⟨b, o, _, _, e, _⟩ := hat.row (i := 0) (row := M[0]'(by rw [hR]; exact h0)) (List.getElem?_eq_getElem _)
    exact ⟨b, o, e⟩
  obtain ⟨ab, ao, rfl⟩ := hA
  have hm2 := fun W => make_intH W R (by omega)
  have HNS := Lib.hid (newSquare_any X (some ⟨ab, ao, none⟩) c M R K hR h64 k64 hK hat)
  have hcs := sq_cs hR h64 k64 hK hC
  have HLOW : Hid (∀ i j, i < R → j < K → cF (sqL M R K) i j = cF M i j) := Lib.hid (fun i j hi hj => sq_low hR hK hi hj)
  have HISC : Hid (∀ i j, i < R → j < K → isC (cF M i j)) := Lib.hid (fun i j hi hj => cost_c hR hK hC hi hj)
  have HH := Lib.hid (And.intro hR (And.intro hK hat))
  obtain ⟨N, hN⟩ : ∃ N, N = R + K := ⟨_, rfl⟩
  obtain ⟨C, hCC⟩ : ∃ C, C = sqL M R K := ⟨_, rfl⟩
  rw [← hCC] at HLOW hcs
  rw [← hN] at hcs
  have HCS := Lib.hid hcs
  have HNC := Lib.hid (And.intro hN hCC)
  have hKN : K ≤ N := by omega
  have hRN : R ≤ N := by omega
  have hN128 : N ≤ 128 := by omega
  clear hR hK hC hat hcs hN hCC
  go_enter Tryz.func57, Tryz.ntmps57
  go_wp2_with fail
  refine HNS.out.mono ?_
  rintro e X0 ⟨B, q, bu, bv, bp, A', c', rfl, hsq0, hXB, hbl0⟩
  clear HNS
  rw [← HNC.out.1, ← HNC.out.2] at hsq0
  have HS0 := Lib.hid (And.intro hsq0 hbl0)
  have HXB := Lib.hid hXB
  have f1 := hsq0.fld.cell (j := 1) rfl
  clear hsq0 hbl0 hXB
  go_wp2_with fail
  clear f1
  go_loopw [21] (fun iv Y => ∃ (i : Nat) (U V P : List Int), i ≤ N ∧ iv = .int .i64 i ∧ Sq Y B q bu bv bp A' c' N C U V P ∧ Mt (cF C) R N i (mF U) (mF V) (mF P) ∧ Below X.heap.size X Y) (fun iv _ => N - (intOf iv).toNat)
  case atStart =>
    refine ⟨0, _, _, _, Nat.zero_le _, rfl, HS0.out.1, Mt.zero (fun r hr => ?_) (fun r hr => ?_) (fun r hr => ?_), HS0.out.2⟩
    all_goals (unfold mF; rw [List.getElem?_replicate, if_pos hr]; rfl)
  case round =>
    obtain ⟨i, U, V, P, hi, rfl, hsq, hmt, hbl⟩ := hrel
    have HR := Lib.hid (And.intro hsq (And.intro hmt hbl))
    clear hsq hmt hbl
    by_cases hlt : i < N
    · have hlt' : (i : Int) < (N : Int) := by omega
      have HI := Lib.hid (insert_any wr B q bu bv bp A' c' N C U V P R K i HCS.out hlt HR.out.2.1 HR.out.1)
      go_wp2_with fail
      refine HI.out.mono ?_
      rintro e X1 ⟨rfl, U', V', P', g1, g2, g3⟩
      have HG := Lib.hid (And.intro g1 (And.intro g2 (HR.out.2.2.trans (g3.mono HXB.out))))
      clear HI g1 g2 g3
      go_wp2_with fail
      go_roundw
      case rel => exact ⟨i + 1, U', V', P', by omega, by go_num, HG.out.1, HG.out.2.1, HG.out.2.2⟩
      case measure => simp [intOf]; omega
    · obtain rfl : N = i := by omega
      obtain ⟨p0, hpp0, hpf0⟩ := HR.out.2.1.pf HCS.out
      have hpr : (∀ i, i < N → 0 ≤ mF U i ∧ mF U i ≤ 36028797018963968) ∧ (∀ j, j < N → -36028797018963968 ≤ mF V j ∧ mF V j ≤ 0) := by
        refine ⟨fun i hi => ?_, fun j hj => ?_⟩
        · have := HR.out.2.1.price HCS.out (Nat.le_refl _) hi; omega
        · have := HR.out.2.1.neg j hj; omega
      have HP0 := Lib.hid (And.intro hpp0 hpf0)
      have HPR := Lib.hid hpr
      clear hpp0 hpf0 hpr
      obtain ⟨w1, hw1⟩ : ∃ w', w' = wr := ⟨_, rfl⟩
      subst hw1
      go_wp2_with fail
      go_loopw [30] (fun iv Y => ∃ (i : Nat) (P5 : List Int) (p : Nat → Nat), i ≤ R ∧ iv = .int .i64 i ∧ Sq Y B q bu bv bp A' c' N C U V P5 ∧ (∀ j, j < N → mF P5 j = (p j : Nat)) ∧ Pf (cF C) N (mF U) (mF V) p ∧ First (cF C) N (mF U) (mF V) p i ∧ Below X.heap.size X Y) (fun iv _ => R - (intOf iv).toNat)
      case atStart => exact ⟨0, P, p0, Nat.zero_le _, rfl, HR.out.1, HP0.out.1, HP0.out.2, fun r hr => by omega, HR.out.2.2⟩
      case round =>
        obtain ⟨i, P5, p, hi, rfl, h1, h2, h3, h4, h5⟩ := hrel
        have HQ := Lib.hid (And.intro h1 (And.intro h2 (And.intro h3 (And.intro h4 h5))))
        clear h1 h2 h3 h4 h5
        by_cases hlt : i < R
        · have hlt' : (i : Int) < (R : Int) := by omega
          have HI := Lib.hid (advance_any wr B q bu bv bp A' c' N C U V P5 i p hN128 HQ.out.1 HQ.out.2.2.1 HQ.out.2.1 HQ.out.2.2.2.1 (by omega) HPR.out.1 HPR.out.2)
          go_wp2_with fail
          refine HI.out.mono ?_
          rintro e X1 ⟨rfl, P6, p6, g1, g2, g3, g4, g5⟩
          have HG := Lib.hid (And.intro g1 (And.intro g2 (And.intro g3 (And.intro g4 (HQ.out.2.2.2.2.trans (g5.mono HXB.out))))))
          clear HI g1 g2 g3 g4 g5
          go_wp2_with fail
          go_roundw
          case rel => exact ⟨i + 1, P6, p6, by omega, by go_num, HG.out.1, HG.out.2.1, HG.out.2.2.1, HG.out.2.2.2.1, HG.out.2.2.2.2⟩
          case measure => simp [intOf]; omega
        · obtain rfl : R = i := by omega
          obtain ⟨w2, hw2⟩ : ∃ w', w' = wr := ⟨_, rfl⟩
          subst hw2
          obtain ⟨W3, hW3⟩ : ∃ W, W = w2.alloc (.cells (madeCells #[.int .i64 0] R) 3) := ⟨_, rfl⟩
          have HW : Hid (Sq W3 B q bu bv bp A' c' N C U V P5 ∧ BlkI W3 w2.heap.size 3 (List.replicate R 0) ∧ Below X.heap.size X W3) := Lib.hid (by
            have k0 := below_newH w2 (.cells (madeCells #[.int .i64 0] R) 3)
            have k1 := blk_new w2 (List.replicate R (.int .i64 0)) 3
            rw [← made_list, ← hW3] at k1
            rw [← hW3] at k0
            refine ⟨HQ.out.1.next k0, ?_, HQ.out.2.2.2.2.trans (k0.mono (Nat.le_trans HXB.out HQ.out.1.ge))⟩
            unfold BlkI
            rw [List.map_replicate]
            exact k1)
          have HSZ : Hid (bp < w2.heap.size ∧ bu < w2.heap.size ∧ bv < w2.heap.size ∧ B ≤ w2.heap.size) := Lib.hid ⟨HQ.out.1.rp.lt, HQ.out.1.ru.lt, HQ.out.1.rv.lt, HQ.out.1.ge⟩
          go_upto_region 14 with fail
          rw [← hW3]
          clear hW3
          go_wp2_with fail
          go_loopw [42] (fun iv Y => ∃ (k : Nat) (m : List Int), k ≤ R ∧ iv = .int .i64 k ∧ m.length = R ∧ (∀ j, j < k → mF m j = -1) ∧ BlkI Y w2.heap.size 3 m ∧ Sq Y B q bu bv bp A' c' N C U V P5 ∧ Below X.heap.size X Y) (fun iv _ => R - (intOf iv).toNat)
          case atStart => exact ⟨0, _, Nat.zero_le _, rfl, by simp, fun j hj => by omega, HW.out.2.1, HW.out.1, HW.out.2.2⟩
          case round =>
            obtain ⟨k, m, hk, rfl, h1, h2, h3, h4, h5⟩ := hrel
            have HM := Lib.hid (And.intro h1 (And.intro h2 (And.intro h3 (And.intro h4 h5))))
            clear h1 h2 h3 h4 h5
            by_cases hlt : k < R
            · have hlt' : (k : Int) < (R : Int) := by omega
              have cp := HM.out.2.2.1.cell (j := k) (by rw [HM.out.1]; exact hlt)
              have zp := HM.out.2.2.1.free k
              have HN := Lib.hid (And.intro (HM.out.2.2.1.set k (-1)) (And.intro (HM.out.2.2.2.1.other (g := w2.heap.size) HSZ.out.2.2.2 (Nat.ne_of_lt HSZ.out.2.1) (Nat.ne_of_lt HSZ.out.2.2.1) (Nat.ne_of_lt HSZ.out.1) k (.int .i64 (-1))) (HM.out.2.2.2.2.setCell (p := ⟨w2.heap.size, k, none⟩) (Nat.le_trans HXB.out HSZ.out.2.2.2) (.int .i64 (-1)))))
              go_wp2_with fail
              go_roundw
              case rel =>
                refine ⟨k + 1, m.set k (-1), by omega, by go_num, by rw [List.length_set]; exact HM.out.1, fun j hj => ?_, HN.out.1, HN.out.2.1, HN.out.2.2⟩
                rw [mF_set (by rw [HM.out.1]; exact hlt)]
                by_cases e : j = k
                · rw [e, putF_eq]
                · rw [putF_ne _ e]; exact HM.out.2.1 j (by omega)
              case measure => simp [intOf]; omega
            · obtain rfl : R = k := by omega
              have HCR0 : Hid (ColR R p (mF m) 0) := Lib.hid (ColR.start HM.out.2.1)
              go_wp2_with fail
              go_loopw [10, 50] (fun tv iv Y => ∃ (k : Nat) (t : Int) (m : List Int), k ≤ K ∧ tv = .int .i64 t ∧ iv = .int .i64 k ∧ m.length = R ∧ ColR R p (mF m) k ∧ BlkI Y w2.heap.size 3 m ∧ Sq Y B q bu bv bp A' c' N C U V P5 ∧ Below X.heap.size X Y) (fun _ iv _ => K - (intOf iv).toNat)
              case atStart => exact ⟨0, 0, m, Nat.zero_le _, rfl, rfl, HM.out.1, HCR0.out, HM.out.2.2.1, HM.out.2.2.2.1, HM.out.2.2.2.2⟩
              case round =>
                obtain ⟨k, t, m, hk, rfl, rfl, h1, h2, h3, h4, h5⟩ := hrel
                have HM := Lib.hid (And.intro h1 (And.intro h2 (And.intro h3 (And.intro h4 h5))))
                clear h1 h2 h3 h4 h5
                by_cases hlt : k < K
                · have hlt' : (k : Int) < (K : Int) := by omega
                  have hkN' : (k : Int) < (N : Int) := by omega
                  have f2 := HM.out.2.2.2.1.fld.cell (j := 2) rfl
                  have cp := HM.out.2.2.2.1.rp.cell (j := k) (by rw [HM.out.2.2.2.1.pl]; omega)
                  rw [HQ.out.2.1 k (by omega)] at cp
                  have HPK := Lib.hid (And.intro (HM.out.2.1.put (N := N) HQ.out.2.2.1.inj (by omega)) (HM.out.2.1.skip (p := p) (k := k)))
                  obtain ⟨r, hr⟩ : ∃ r, r = p k := ⟨_, rfl⟩
                  rw [← hr] at cp HPK
                  clear hr
                  have hr0 : (0 : Int) ≤ (r : Int) := by omega
                  by_cases hrR : r < R
                  · have hrR' : (r : Int) < (R : Int) := by omega
                    have cm := HM.out.2.2.1.cell (j := r) (by rw [HM.out.1]; exact hrR)
                    have zm := HM.out.2.2.1.free r
                    have HN := Lib.hid (And.intro (HM.out.2.2.1.set r k) (And.intro (HM.out.2.2.2.1.other (g := w2.heap.size) HSZ.out.2.2.2 (Nat.ne_of_lt HSZ.out.2.1) (Nat.ne_of_lt HSZ.out.2.2.1) (Nat.ne_of_lt HSZ.out.1) r (.int .i64 k)) (HM.out.2.2.2.2.setCell (p := ⟨w2.heap.size, r, none⟩) (Nat.le_trans HXB.out HSZ.out.2.2.2) (.int .i64 k))))
                    obtain ⟨W9, hW9⟩ : ∃ W, W = wr.setCell ⟨w2.heap.size, r, none⟩ (.int .i64 k) := ⟨_, rfl⟩
                    rw [← hW9] at HN
                    obtain ⟨_, b2, o2, c2, _, e1, e2⟩ := (HH.out.2.2.below HN.out.2.2).num HH.out.2.1 (i := r) (j := k) (by rw [HH.out.1]; exact hrR) hlt
                    go_upto_region 25 with fail
                    rw [← hW9]
                    clear hW9
                    go_wp2_with fail
                    go_roundw
                    case rel =>
                      refine ⟨k + 1, _, m.set r k, by omega, rfl, by go_num, by rw [List.length_set]; exact HM.out.1, ?_, HN.out.1, HN.out.2.1, HN.out.2.2⟩
                      rw [mF_set (by rw [HM.out.1]; exact hrR)]
                      exact HPK.out.1
                    case measure => simp [intOf]; omega
                  · have hrR' : ¬ ((r : Int) < (R : Int)) := by omega
                    go_wp2_with fail
                    go_roundw
                    case rel => exact ⟨k + 1, t, m, by omega, rfl, by go_num, HM.out.1, HPK.out.2 (by omega), HM.out.2.2.1, HM.out.2.2.2.1, HM.out.2.2.2.2⟩
                    case measure => simp [intOf]; omega
                · obtain rfl : K = k := by omega
                  go_wp2_with fail
                  go_ret2
                  exact ⟨_, t, rfl, w2.heap.size, m, rfl, Nat.le_trans HXB.out HSZ.out.2.2.2, HM.out.2.2.1, HM.out.1, solve_best HCS.out HLOW.out HISC.out HR.out.2.1 HQ.out.2.2.1 HQ.out.2.2.2.1 HM.out.2.1, HM.out.2.2.2.2⟩
set_option maxRecDepth 100000 in
set_option maxHeartbeats 8000000 in
theorem Solve_any (X : World) (A : Option Addr) (c : Nat) (M : List (List Int)) (R K : Nat) (hR : M.length = R) (h0 : 0 < R) (h64 : R ≤ 64) (k64 : K ≤ 64) (hK : ∀ l ∈ M, l.length = K) (hC : ∀ l ∈ M, ∀ x ∈ l, isC x) (hat : MatAt X X.heap.size A M) :
    Calls Tryz.prog 42 #[.slice A R c] X fun e X' => ∃ v t, e = .returned (.tuple #[v, .int .i64 t, .int .i64 0]) ∧ RetSol X M R K v X' := by
  have HCK := Lib.hid (check_any X A c M R K hR h0 h64 k64 hK hC hat)
  have HSO := Lib.hid (fun Y (hb : Below X.heap.size X Y) => solve_any Y A c M R K hR h0 h64 k64 hK hC ((hat.below hb).more hb.size))
  clear hR hK hC hat
  go_enter Tryz.func42, Tryz.ntmps42
  go_wp2_with fail
  refine HCK.out.mono ?_
  rintro e X1 ⟨rfl, hb1⟩
  have HB1 := Lib.hid hb1
  have HS1 := Lib.hid (HSO.out X1 hb1)
  clear HCK HSO hb1
  go_wp2_with fail
  refine HS1.out.mono ?_
  rintro e X2 ⟨v, t, rfl, b, m, rfl, g1, g2, g3, g4, g5⟩
  have HG := Lib.hid (And.intro g1 (And.intro g2 (And.intro g3 (And.intro g4 g5))))
  clear HS1 g1 g2 g3 g4 g5
  go_wp2_with fail
  go_ret3
  exact ⟨_, t, rfl, b, m, rfl, Nat.le_trans HB1.out.size HG.out.1, HG.out.2.1, HG.out.2.2.1, HG.out.2.2.2.1, HB1.out.trans (HG.out.2.2.2.2.mono HB1.out.size)⟩
end
section
open Go.RowKit Go.Maps

theorem cost_mat {w' : World} {go n : Nat} {E : List EdgeT} {ts : List Int} {ss : List SlotT} {us : List UnitT} {vs : List Value} (h1 : Sl w' w'.heap.size (some ⟨go, 0, none⟩) vs) (h2 : vs.length = ss.length)
    (h3 : ∀ (i : Nat) (s : SlotT) (v : Value), ss[i]? = some s → vs[i]? = some v → ∃ g row, v = .slice (some ⟨g, 0, none⟩) us.length us.length ∧ Sl w' w'.heap.size (some ⟨g, 0, none⟩) (row.map (Value.int .i64)) ∧ RowP n E ts us s row us.length) :
    ∃ M : List (List Int), M.length = ss.length ∧ MatAt w' w'.heap.size (some ⟨go, 0, none⟩) M ∧ (∀ l ∈ M, l.length = us.length) ∧ ∀ (i : Nat) (s : SlotT) (r : List Int), ss[i]? = some s → M[i]? = some r → RowP n E ts us s r us.length := by
  obtain ⟨M, hl, hM⟩ := list_of' (fun i (row : List Int) => ∃ s g, ss[i]? = some s ∧ vs[i]? = some (.slice (some ⟨g, 0, none⟩) us.length us.length) ∧ Sl w' w'.heap.size (some ⟨g, 0, none⟩) (row.map (Value.int .i64)) ∧ RowP n E ts us s row us.length) ss.length (fun i hi => by
    have e1 : ss[i]? = some ss[i] := List.getElem?_eq_getElem hi
    have e2 : vs[i]? = some (vs[i]'(by omega)) := List.getElem?_eq_getElem _
    obtain ⟨g, row, e3, e4, e5⟩ := h3 i _ _ e1 e2
    rw [e3] at e2
    exact ⟨row, _, g, e1, e2, e4, e5⟩)
  refine ⟨M, hl, ⟨vs, by rw [h2, hl], h1, fun i row hr => ?_⟩, fun l hlm => ?_, fun i s r hs hr => ?_⟩
  · obtain ⟨s, g, _, e2, e3, e4⟩ := hM i row hr
    refine ⟨some ⟨g, 0, none⟩, us.length, ?_, e3⟩
    rw [e4.1]
    exact e2
  · obtain ⟨i, hi, e⟩ := List.getElem_of_mem hlm
    obtain ⟨s, g, _, _, _, e4⟩ := hM i l (by rw [List.getElem?_eq_getElem hi, e])
    exact e4.1
  · obtain ⟨s', g, e1, _, _, e4⟩ := hM i r hr
    rw [hs] at e1
    cases e1
    exact e4
/-- the columns below k that some row can have. -/
def colB (M : List (List Int)) (j : Nat) : Bool := M.any (fun r => r[j]?.getD 0 != 4611686018427387904)
def colT (M : List (List Int)) (k : Nat) : List Nat := (List.range k).filter (colB M)
theorem colT_succ (M : List (List Int)) (k : Nat) : colT M (k + 1) = if colB M k then colT M k ++ [k] else colT M k := by
  unfold colT
  rw [List.range_succ, List.filter_append]
  cases e : colB M k <;> simp [List.filter, e]
theorem colT_len (M : List (List Int)) (k : Nat) : (colT M k).length ≤ k := by
  have := List.length_filter_le (colB M) (List.range k)
  unfold colT
  simpa using this
theorem colT_lt {M : List (List Int)} {k j : Nat} (h : j ∈ colT M k) : j < k := List.mem_range.1 (List.mem_filter.1 h).1
theorem colB_yes {M : List (List Int)} {i j : Nat} (hi : i < M.length) (h : cF M i j ≠ 4611686018427387904) : colB M j = true := by
  unfold colB
  rw [List.any_eq_true]
  refine ⟨M[i], List.getElem_mem hi, ?_⟩
  unfold cF at h
  rw [List.getElem?_eq_getElem hi] at h
  simpa using h
theorem colB_no {M : List (List Int)} {j : Nat} (h : ∀ i, i < M.length → cF M i j = 4611686018427387904) : colB M j = false := by
  unfold colB
  rw [List.any_eq_false]
  intro r hr
  obtain ⟨i, hi, e⟩ := List.getElem_of_mem hr
  have := h i hi
  unfold cF at this
  rw [List.getElem?_eq_getElem hi, e] at this
  simpa using this
/-- the units of the columns. -/
theorem colT_units {us : List UnitT} {M : List (List Int)} {P : UnitT → Prop} [DecidablePred P] : ∀ {k : Nat}, k ≤ us.length → (∀ (j : Nat) (u : UnitT), us[j]? = some u → (colB M j = true ↔ P u)) → (colT M k).filterMap (fun j => us[j]?) = (us.take k).filter (fun u => decide (P u))
  | 0, _, _ => by simp [colT]
  | k + 1, hk, h => by
    have ih := colT_units (k := k) (Nat.le_of_succ_le hk) h
    have hu : us[k]? = some us[k] := List.getElem?_eq_getElem hk
    have hq := h k _ hu
    rw [colT_succ, take_snoc' hu, List.filter_append, ← ih]
    by_cases e : P us[k]
    · rw [if_pos (hq.2 e), List.filterMap_append]
      simp [hu, e]
    · rw [if_neg (fun x => e (hq.1 x))]
      simp [e]
/-- the rows at the columns. -/
def pickR (M : List (List Int)) (cols : List Nat) : List (List Int) := M.map (fun r => cols.map (fun j => r[j]?.getD 0))
theorem pickR_len (M : List (List Int)) (cols : List Nat) : (pickR M cols).length = M.length := by simp [pickR]
theorem pickR_rows {M : List (List Int)} {cols : List Nat} : ∀ l ∈ pickR M cols, l.length = cols.length := by
  intro l hl
  obtain ⟨r, _, rfl⟩ := List.mem_map.1 hl
  simp
end
section
open Go.RowKit Go.Maps

theorem fm_all {α β : Type} {f : α → Option β} : ∀ {l : List α}, (∀ j ∈ l, ∃ u, f j = some u) → (l.filterMap f).length = l.length ∧ (∀ k : Nat, (l.filterMap f)[k]? = (l[k]?).bind f) ∧ ∀ k : Nat, (l.take k).filterMap f = (l.filterMap f).take k
  | [], _ => ⟨rfl, fun k => by simp, fun k => by simp⟩
  | x :: l, h => by
    obtain ⟨u, hu⟩ := h x (List.mem_cons_self)
    obtain ⟨h1, h2, h3⟩ := fm_all (l := l) (fun j hj => h j (List.mem_cons_of_mem _ hj))
    rw [List.filterMap_cons_some hu]
    refine ⟨by simp [h1], fun k => ?_, fun k => ?_⟩
    · cases k with
      | zero => simp [hu]
      | succ k => simpa using h2 k
    · cases k with
      | zero => simp
      | succ k => rw [List.take_succ_cons, List.take_succ_cons, List.filterMap_cons_some hu, h3 k]
section
variable {n : Nat} {E : List EdgeT} {ts : List Int} {ss : List SlotT} {us : List UnitT} {M : List (List Int)}
theorem colB_reach (hl : M.length = ss.length) (hr : ∀ (i : Nat) (s : SlotT) (r : List Int), ss[i]? = some s → M[i]? = some r → RowP n E ts us s r us.length) {j : Nat} {u : UnitT} (hu : us[j]? = some u) : colB M j = true ↔ ReachP n E ts (ss.map strip) u := by
  have hj := (List.getElem?_eq_some_iff.1 hu).1
  constructor
  · intro h
    obtain ⟨r, hrm, hne⟩ := List.any_eq_true.1 h
    obtain ⟨i, hi, e⟩ := List.getElem_of_mem hrm
    have hs : ss[i]? = some (ss[i]'(by omega)) := List.getElem?_eq_getElem _
    have hp := hr i _ r hs (by rw [List.getElem?_eq_getElem hi, e])
    have hc : r[j]? = some (r[j]'(by rw [hp.1]; exact hj)) := List.getElem?_eq_getElem _
    refine ⟨strip _, List.mem_map.2 ⟨_, List.mem_of_getElem? hs, rfl⟩, _, (hp.2 j u _ hj hu hc).strip, ?_⟩
    rw [hc] at hne
    simpa using hne
  · rintro ⟨s', hs', t, ht, hne⟩
    obtain ⟨s, hs, rfl⟩ := List.mem_map.1 hs'
    obtain ⟨i, hi, e⟩ := List.getElem_of_mem hs
    have hs : ss[i]? = some s := by rw [List.getElem?_eq_getElem hi, e]
    have hiM : i < M.length := by omega
    have hp := hr i s M[i] hs (List.getElem?_eq_getElem hiM)
    have hc : M[i][j]? = some (M[i][j]'(by rw [hp.1]; exact hj)) := List.getElem?_eq_getElem _
    refine colB_yes hiM ?_
    unfold cF
    rw [List.getElem?_eq_getElem hiM]
    show M[i][j]?.getD 0 ≠ _
    have h2 := (hp.2 j u _ hj hu hc).strip.unique ht
    rw [hc]
    show (M[i][j]'(by rw [hp.1]; exact hj)) ≠ _
    rw [h2]
    exact hne
/-- the units that candidates returns. -/
theorem cand_units (hl : M.length = ss.length) (hr : ∀ (i : Nat) (s : SlotT) (r : List Int), ss[i]? = some s → M[i]? = some r → RowP n E ts us s r us.length) :
    ((colT M us.length).take 64).filterMap (fun j => us[j]?) = candU n E ts (ss.map strip) us := by
  have _ := Classical.propDecidable
  have h1 := colT_units (us := us) (M := M) (P := fun u => ReachP n E ts (ss.map strip) u) (k := us.length) (Nat.le_refl _) (fun j u hu => colB_reach hl hr hu)
  rw [(fm_all (fun j hj => ⟨_, List.getElem?_eq_getElem (colT_lt hj)⟩)).2.2 64, h1, List.take_length]
  unfold candU
  congr 2
  funext u
  exact decide_eq_decide.2 Iff.rfl
/-- the costs that candidates returns. -/
theorem cand_costs (hl : M.length = ss.length) (hr : ∀ (i : Nat) (s : SlotT) (r : List Int), ss[i]? = some s → M[i]? = some r → RowP n E ts us s r us.length) :
    MatR n E ts (ss.map strip) (candU n E ts (ss.map strip) us) (pickR M ((colT M us.length).take 64)) := by
  rw [← cand_units hl hr]
  obtain ⟨h1, h2, _⟩ := fm_all (f := fun j => us[j]?) (l := (colT M us.length).take 64) (fun j hj => ⟨_, List.getElem?_eq_getElem (colT_lt (List.mem_of_mem_take hj))⟩)
  refine ⟨by rw [pickR_len, hl, List.length_map], fun i s' r' hs' hr' => ⟨?_, fun j u c hu hc => ?_⟩⟩
  · rw [h1]
    exact pickR_rows r' (List.mem_of_getElem? hr')
  · rw [List.getElem?_map, Option.map_eq_some_iff] at hs'
    obtain ⟨s, hs, rfl⟩ := hs'
    unfold pickR at hr'
    rw [List.getElem?_map, Option.map_eq_some_iff] at hr'
    obtain ⟨r, hrr, rfl⟩ := hr'
    rw [List.getElem?_map, Option.map_eq_some_iff] at hc
    obtain ⟨k, hk, rfl⟩ := hc
    rw [h2, hk] at hu
    have hu : us[k]? = some u := hu
    have hp := hr i s r hs hrr
    have hkl := (List.getElem?_eq_some_iff.1 hu).1
    have hc : r[k]? = some (r[k]'(by rw [hp.1]; exact hkl)) := List.getElem?_eq_getElem _
    rw [hc]
    exact (hp.2 k u _ hkl hu hc).strip
end
end
section
open Go.RowKit Go.Maps

section
variable {S S' : Nat → Prop} {w w1 w2 : World}
theorem Only.row (h : Only S w w1) {base : Nat} {e : TypeId} {size n : Nat} {v : Value} {xs : List Value} (hr : w.ownsRow base e size v n xs) (hv : ∀ k, v.ownBlock = some k → ¬ S k) : w1.ownsRow base e size v n xs := by
  obtain ⟨hl, h2⟩ := hr
  refine ⟨hl, ?_⟩
  rcases h2 with h2 | ⟨g, cap, cur, rfl, hb, hh, r⟩
  · exact .inl h2
  · refine .inr ⟨g, cap, cur, rfl, hb, ?_, r⟩
    rw [h.block g (Array.getElem?_eq_some_iff.1 hh).1 (hv g rfl)]
    exact hh
theorem Only.ofRecs {α : Type} {cs : α → List Value} (h : Only S w w1) {B : Nat} {A : Option Addr} {xs : List α} (hr : RecsAt cs w B A xs) (hB : B ≤ w.heap.size) (hA : ∀ b o, A = some ⟨b, o, none⟩ → ¬ S b) : RecsAt cs w1 B A xs := fun j u hj => by
  obtain ⟨b, o, e, hb, hc⟩ := hr j u hj
  exact ⟨b, o, e, hb, (h.cell (a := ⟨b, o + j, none⟩) (Nat.lt_of_lt_of_le hb hB) (hA b o e)).trans hc⟩
theorem Only.ofSl (h : Only S w w1) {B : Nat} {A : Option Addr} {xs : List Value} (hr : Sl w B A xs) (hB : B ≤ w.heap.size) (hA : ∀ b o, A = some ⟨b, o, none⟩ → ¬ S b) : Sl w1 B A xs := fun j u hj => by
  obtain ⟨b, o, e, hb, hc⟩ := hr j u hj
  exact ⟨b, o, e, hb, (h.cell (a := ⟨b, o + j, none⟩) (Nat.lt_of_lt_of_le hb hB) (hA b o e)).trans hc⟩
end

/-- where an append onto a row of the call's own leaves the cells of the old row. -/
theorem append_keeps {P : Program} {w w' : World} {base : Nat} {t ty e : TypeId} {i : TypeInfo} {z : Value} {size bytes : Nat} (ht : P.underlying t = some (.slice e)) (hi : P.info? e = some i) (hz : i.zero = some z)
    (hsize : i.size = size) (hby : i.bytes = bytes) {v v' : Value} {n : Nat} {xs : List Value} (hown : w.ownsRow base e size v n xs)
    {a : Addr} {m c : Nat} {news : List Value} (hl : news.length = m * size) (hnews : ∀ j u, news[j]? = some u → w.cell? (a.add j) = some u) (h1 : ∀ u ∈ news, u.oneCell' = true) (h63 : n + m ≤ maxLen) (hbytes : (n + m) * bytes ≤ 140737488355328)
    (hr : (Builtin.append_ #[t, t] ty #[v, .slice (some a) m c]).run P w = .ok v' w') (hn : w'.ownsRow base e size v' (n + m) (xs ++ news)) :
    ∀ g j u, v.ownBlock = some g → xs[j]? = some u → w'.cell? ⟨g, j, none⟩ = some u := by
  intro g j u hg hj
  subst hsize hby
  have hlt := (hown.lt g hg).2
  have hj2 : j < xs.length := (List.getElem?_eq_some_iff.1 hj).1
  by_cases hne : v'.ownBlock = some g
  · have := hn.cells hne j u (by rw [List.getElem?_append_left hj2]; exact hj)
    rwa [add_none, Nat.zero_add] at this
  · have hsm : n + m ≤ 9223372036854775807 := by simp only [maxLen] at h63; omega
    have holds := hown.cells hg
    have hcell : w.cell? ⟨g, j, none⟩ = some u := by
      have := holds j u hj
      rwa [add_none, Nat.zero_add] at this
    rcases hown.2 with ⟨rfl, _⟩ | ⟨g', cap, cur, rfl, hbg, hh, hnc, hcm, hcs, htake⟩
    · cases hg
    · have e : g' = g := by simpa [Value.ownBlock] using hg
      subst e
      by_cases hroom : n + m ≤ cap
      · exfalso
        have hfit : n * i.size + news.length ≤ cur.size := by rw [hl, hcs, ← Nat.add_mul]; exact Nat.mul_le_mul_right _ hroom
        have hr2 := run_append_room (P := P) w t ty _ i ht hi g' n cap cur hh a m c news hl hnews h1 hroom hfit
        rw [hr2] at hr
        injection hr with h2 h3
        subst h2
        exact hne rfl
      · have hr2 := run_append_grow (P := P) w t ty _ i z ht hi hz ⟨g', 0, none⟩ n cap xs hown.1 holds a m c news hl hnews (by omega) (by omega) (growslice_fits (by omega) hbytes)
        rw [hr2] at hr
        injection hr with h2 h3
        subst h3
        exact (World.cell?_alloc_lt w.drew _ ⟨g', j, none⟩ hlt).trans hcell

section
variable {α : Type} {cs : α → List Value} {s : Nat}
/-- 'append(v, x)', x a struct, within a region that draws its order: the new slice written out, and what the old row still holds. -/
theorem step_append_keep {P : Program} {ops : Array Oper} {o : Oper} {a : Act} {K : Act → World → Prop} {Q : Exit → Act → World → Prop} {X : Prop} (w : World) (hgd : o.guard = none) (sl x : Operand) (t : TypeId)
    (ho : o.op = .call { callee := .builtin .append, args := #[sl, x], argTypes := #[t, t] })
    (base : Nat) (e : TypeId) (ht : P.underlying t = some (.slice e)) {z0 : Value} {by0 : Nat} (hinfo : (P.info? e).map (fun i => (i.zero, i.size, i.bytes)) = some (some z0, s, by0)) (hz0 : z0.cells.size = s) (h0 : 0 < s) (hby : by0 ≤ 256)
    (hs : ∀ a, (cs a).length = s) (v : Value) (xs : List α) (w0 : World) (z : α) (hone : ∀ u ∈ cs z, u.oneCell' = true) (vs : Array Value) (hvs : vs = (cs z).toArray) (hw : w = w0.alloc (.cells vs e)) (hv : a.eval sl = v) (hown : OwnR cs s w0 base e v xs)
    (nb : Nat) (hx : a.eval x = .slice (some ⟨nb, 0, none⟩) 1 1) (hnb : nb = w0.heap.size) (hlen : xs.length + 1 ≤ 549755813888) (hbase : base ≤ w0.heap.size)
    (h : ∀ g cap w', OwnR cs s w' base e (.slice (some ⟨g, 0, none⟩) (xs.length + 1) cap) (xs ++ [z]) → w0.grownBy w' v.ownBlock → (v.ownBlock = some g ∨ w0.heap.size ≤ g) → (∀ k j u, v.ownBlock = some k → (xs.flatMap cs)[j]? = some u → w'.cell? ⟨k, j, none⟩ = some u) → K (a.put o.dst (.slice (some ⟨g, 0, none⟩) (xs.length + 1) cap)) w') :
    if Region.wanted o (yielded ops a.tmps) = true then Oper.wp P o a w K Q else X := by
  obtain ⟨i0, hi, hz1, hz2, hz3⟩ := info_parts hinfo
  subst hw hvs hnb
  have hcell : ∀ j u, (cs z)[j]? = some u → (w0.alloc (.cells (cs z).toArray e)).cell? ((⟨w0.heap.size, 0, none⟩ : Addr).add j) = some u := by
    intro j u hj
    rw [add_none, Nat.zero_add, World.cell?_alloc_at (hn := rfl)]
    simpa using hj
  have hb : (xs.length + 1) * by0 ≤ 140737488355328 := by
    have := Nat.mul_le_mul hlen hby
    omega
  have how := World.ownsRow.alloc hown (.cells (cs z).toArray e)
  have hl1 : (cs z).length = 1 * s := by rw [hs, Nat.one_mul]
  obtain ⟨g, cap, w', hr, h2, h3, h4, h5⟩ := run_append_lies (P := P) (w0.alloc (.cells (cs z).toArray e)) t o.type base e i0 z0 s by0 ht hi hz1 hz2 hz3 hz0 h0 v xs.length _ how ⟨w0.heap.size, 0, none⟩ 1 1 (cs z) hl1 hcell hone (by decide) (by unfold maxLen; omega) hb (by simp; omega) _ rfl
  have hk := append_keeps ht hi hz1 hz2 hz3 how hl1 hcell hone (by unfold maxLen; omega) hb hr h2
  have hwn : Region.wanted o (yielded ops a.tmps) = true := by simp [Region.wanted, hgd]
  rw [if_pos hwn]
  unfold Oper.wp execOp
  simp only [ho, resolve, invoke, builtin, Sem.run_bind, Sem.run_pure, Result.andThen_ok, List.map_toArray, List.map_cons, List.map_nil, hv, hx, hr]
  refine h g cap w' ?_ ((World.grownBy_alloc w0 _ _).trans h3) ?_ hk
  · unfold OwnR
    rw [List.length_append, List.length_singleton, List.flatMap_append]
    simpa using h2
  · rcases h4 with h4 | h4
    · exact .inl h4
    · right
      rw [h4]
      simp
end

/-- F with v at i. -/
def updI {ι β : Type} [DecidableEq ι] (F : ι → β) (i : ι) (v : β) : ι → β := fun j => if j = i then v else F j
section
variable {ι β : Type} [DecidableEq ι] {F : ι → β} {i j : ι} {v : β}
theorem updI_same : updI F i v i = v := if_pos rfl
theorem updI_other (h : j ≠ i) : updI F i v j = F j := if_neg h
end

/-- slices F i (i of which ok holds) of records P i, each stored in a cell of its own below base, their rows from base on, no two in one block. -/
structure FamAt {ι α : Type} (cs : α → List Value) (s : Nat) (e : TypeId) (w : World) (base : Nat) (loc : ι → Nat × Nat) (ok : ι → Prop) (F : ι → Value) (P : ι → List α) : Prop where
  cell : ∀ i, ok i → w.cell? ⟨(loc i).1, (loc i).2, none⟩ = some (F i)
  froz : ∀ i, ok i → w.frozen? ⟨(loc i).1, (loc i).2, none⟩ = false
  own : ∀ i, ok i → OwnR cs s w base e (F i) (P i)
  dist : ∀ i j, ok i → ok j → i ≠ j → ∀ g, (F i).ownBlock = some g → (F j).ownBlock ≠ some g
  low : ∀ i, ok i → (loc i).1 < base
  inj : ∀ i j, ok i → ok j → loc i = loc j → i = j
  room : base ≤ w.heap.size
section
variable {ι α : Type} {cs : α → List Value} {s : Nat} {e : TypeId} {w w' : World} {base : Nat} {loc : ι → Nat × Nat} {ok : ι → Prop} {F : ι → Value} {P : ι → List α}
/-- the family's blocks. -/
def famB (loc : ι → Nat × Nat) (ok : ι → Prop) (F : ι → Value) (b : Nat) : Prop := (∃ i, ok i ∧ (loc i).1 = b) ∨ ∃ i, ok i ∧ (F i).ownBlock = some b
theorem FamAt.only (h : FamAt cs s e w base loc ok F P) {S : Nat → Prop} (hg : Only S w w') (hS : ∀ b, famB loc ok F b → ¬ S b) : FamAt cs s e w' base loc ok F P := by
  refine ⟨fun i hi => ?_, fun i hi => ?_, fun i hi => hg.row (h.own i hi) (fun k hk => hS k (.inr ⟨i, hi, hk⟩)), h.dist, h.low, h.inj, Nat.le_trans h.room hg.size⟩
  · exact (hg.cell (a := ⟨(loc i).1, (loc i).2, none⟩) (Nat.lt_of_lt_of_le (h.low i hi) h.room) (hS _ (.inl ⟨i, hi, rfl⟩))).trans (h.cell i hi)
  · exact (hg.frozen (a := ⟨(loc i).1, (loc i).2, none⟩) (Nat.lt_of_lt_of_le (h.low i hi) h.room) (hS _ (.inl ⟨i, hi, rfl⟩))).trans (h.froz i hi)
theorem FamAt.drew (h : FamAt cs s e w base loc ok F P) : FamAt cs s e w.drew base loc ok F P := ⟨h.cell, h.froz, h.own, h.dist, h.low, h.inj, h.room⟩
theorem FamAt.alloc (h : FamAt cs s e w base loc ok F P) (o : Obj) : FamAt cs s e (w.alloc o) base loc ok F P :=
  h.only (S := fun _ => False) (Only.of_below ((Below.refl _ _).alloc (Nat.le_refl _) o)) (fun _ _ q => q)
variable [DecidableEq ι]
/-- one append to one row, and the store of the new slice. -/
theorem FamAt.append (h : FamAt cs s e w base loc ok F P) {i : ι} (hi : ok i) {z : α} {g cap m : Nat} (hown : OwnR cs s w' base e (.slice (some ⟨g, 0, none⟩) m cap) (P i ++ [z])) (hg : w.grownBy w' (F i).ownBlock) (hat : (F i).ownBlock = some g ∨ w.heap.size ≤ g) :
    w'.cell? ⟨(loc i).1, (loc i).2, none⟩ = some (F i) ∧ w'.frozen? ⟨(loc i).1, (loc i).2, none⟩ = false ∧ Below base w w' ∧
      FamAt cs s e (w'.setCell ⟨(loc i).1, (loc i).2, none⟩ (.slice (some ⟨g, 0, none⟩) m cap)) base loc ok (updI F i (.slice (some ⟨g, 0, none⟩) m cap)) (updI P i (P i ++ [z])) := by
  have hb : Below base w w' := (Below.refl _ _).grown hg h.room (fun k e => (h.own i hi).ge_base k e)
  have c1 : ∀ j, ok j → w'.cell? ⟨(loc j).1, (loc j).2, none⟩ = some (F j) := fun j hj => (hb.cell (p := ⟨(loc j).1, (loc j).2, none⟩) (h.low j hj)).trans (h.cell j hj)
  have f1 : ∀ j, ok j → w'.frozen? ⟨(loc j).1, (loc j).2, none⟩ = false := fun j hj => (hb.frozen (p := ⟨(loc j).1, (loc j).2, none⟩) (h.low j hj)).trans (h.froz j hj)
  have hnew : ∀ j, ok j → j ≠ i → (F j).ownBlock ≠ some g := by
    intro j hj hne q
    rcases hat with hat | hat
    · exact h.dist i j hi hj (Ne.symm hne) g hat q
    · have := (h.own j hj).lt_size g q
      omega
  refine ⟨c1 i hi, f1 i hi, hb, ⟨fun j hj => ?_, fun j hj => ?_, fun j hj => ?_, fun a b ha hb' hne g' hg' => ?_, h.low, h.inj, by have := hb.size; have := h.room; simp; omega⟩⟩
  · by_cases q : j = i
    · subst q
      rw [updI_same]
      exact World.cell?_setCell_same' _ _ _ (by rw [c1 _ hj]; rfl)
    · rw [updI_other q]
      refine (World.cell?_setCell_other w' _ ⟨(loc j).1, (loc j).2, none⟩ _ ?_).trans (c1 j hj)
      intro e
      injection e with e1 e2
      exact q (h.inj j i hj hi (Prod.ext e1.symm e2.symm))
  · rw [World.frozen?_setCell]
    exact f1 j hj
  · by_cases q : j = i
    · subst q
      rw [updI_same, updI_same]
      refine hown.setCell_other ?_ _
      intro e
      have h1 : base ≤ (loc j).1 := hown.ge_base _ e
      have := h.low j hj
      omega
    · rw [updI_other q, updI_other q]
      refine OwnR.setCell_other ?_ ?_ _
      · refine World.ownsRow.kept (h.own j hj) hg ?_
        cases hk : (F j).ownBlock with
        | none => exact .inl rfl
        | some k =>
          refine .inr fun e => ?_
          exact h.dist i j hi hj (Ne.symm q) k e.symm hk
      · intro e
        have h1 : base ≤ (loc i).1 := (h.own j hj).ge_base _ e
        have := h.low i hi
        omega
  · by_cases q : a = i
    · subst q
      rw [updI_same] at hg'
      have e : g = g' := by simpa [Value.ownBlock] using hg'
      subst e
      rw [updI_other (Ne.symm hne)]
      exact hnew b hb' (Ne.symm hne)
    · rw [updI_other q] at hg'
      by_cases q' : b = i
      · subst q'
        rw [updI_same]
        intro e
        have e : g = g' := by simpa [Value.ownBlock] using e
        subst e
        exact hnew a ha q hg'
      · rw [updI_other q']
        exact h.dist a b ha hb' hne g' hg'
theorem famB_upd {i : ι} (hi : ok i) {g n cap : Nat} {b : Nat} (h : famB loc ok (updI F i (.slice (some ⟨g, 0, none⟩) n cap)) b) (N : Nat) (hat : (F i).ownBlock = some g ∨ N ≤ g) : famB loc ok F b ∨ N ≤ b := by
  rcases h with h | ⟨j, hj, e⟩
  · exact .inl (.inl h)
  · by_cases q : j = i
    · subst q
      rw [updI_same] at e
      have e : g = b := by simpa [Value.ownBlock] using e
      subst e
      rcases hat with hat | hat
      · exact .inl (.inr ⟨j, hj, hat⟩)
      · exact .inr hat
    · rw [updI_other q] at e
      exact .inl (.inr ⟨j, hj, e⟩)
end
end
section
open Go.RowKit Go.Maps

def oneI (x : Int) : List Value := [.int .i64 x]
theorem oneI_len (x : Int) : (oneI x).length = 1 := rfl
theorem oneI_one (x : Int) : ∀ v ∈ oneI x, v.oneCell' = true := by
  intro v hv
  simp only [oneI, List.mem_singleton] at hv
  subst hv
  rfl
abbrev FamI (Y : World) (gb R : Nat) (F : Nat → Value) (P : Nat → List Int) : Prop := FamAt oneI 1 2 Y (gb + 1) (fun i : Nat => (gb, i)) (fun i => i < R) F P
theorem fam_made (w : World) (R : Nat) : FamI (w.alloc (.cells (madeCells #[.slice none 0 0] R) 25)) w.heap.size R (fun _ => .slice none 0 0) (fun _ => []) := by
  have hb := blk_new w (List.replicate R (.slice none 0 0)) 25
  rw [← made_list] at hb
  refine ⟨fun i hi => ?_, fun i hi => ?_, fun i _ => OwnR.nil _ _ _, (fun i j _ _ _ g h => by cases h), fun i _ => Nat.lt_succ_self _, fun i j _ _ h => ?_, ?_⟩
  · exact hb.cell (by rw [List.getElem?_replicate, if_pos hi])
  · exact hb.free i
  · injection h
  · have := hb.lt; omega
end
end Go.Proofs.YtimijjhdgihobaaGreatDoor
