/-
  assignment.newSquare (printed by genhun.py).
  assignment: isCost, check.
  dispatch.send.
  dispatch.limited.
-/
import Derived.Test.YtimijjhdgihobaaGreatDoorMqy
import Derived.Laws.CopyOwn
import Derived.Test.YtimijjhdgihobaaGreatDoorMqu
import Derived.Test.YtimijjhdgihobaaGreatDoorMqk
namespace Go.Proofs.YtimijjhdgihobaaGreatDoor
section
open Go.RowKit Go.Maps

theorem row_infoH : (Tryz.prog.info? 25).map (fun i => (i.zero, i.size, i.bytes)) = some (some (.slice none 0 0), 1, 24) := by kernel_rfl
theorem Blk.grownH {Y Z : World} {b : Nat} {T : TypeId} {cs : List Value} (h : Blk Y b T cs) {base : Nat} {e : TypeId} {s n : Nat} {v : Value} {xs : List Value} (hr : Y.ownsRow base e s v n xs) (hT : T ≠ e) (hg : Y.grownBy Z v.ownBlock) : Blk Z b T cs := by
  refine (hg.block b h.lt (fun q => ?_)).trans h
  rcases hr.2 with ⟨e1, _⟩ | ⟨k, cap, cur, e1, _, hh, _⟩
  · rw [e1] at q
    cases q
  · rw [e1] at q
    have q1 : b = k := by simpa [Value.ownBlock] using q
    have h2 : Y.heap[b]? = _ := h
    rw [q1, hh] at h2
    injection h2 with h2
    injection h2 with _ h2 _
    exact hT h2.symm
theorem own_setH {Y : World} {base : Nat} {e : TypeId} {s n : Nat} {v : Value} {xs : List Value} (h : Y.ownsRow base e s v n xs) {b : Nat} (hb : b < base) (j : Nat) (u : Value) : (Y.setCell ⟨b, j, none⟩ u).ownsRow base e s v n xs := by
  refine ⟨h.1, ?_⟩
  rcases h.2 with h1 | ⟨k, cap, cur, e1, e2, hh, r⟩
  · exact .inl h1
  · exact .inr ⟨k, cap, cur, e1, e2, (heap_setCell_other Y ⟨b, j, none⟩ k u (by show k ≠ b; omega)).trans hh, r⟩
theorem own_belowH {Y Z : World} {base : Nat} {e : TypeId} {s n : Nat} {v : Value} {xs : List Value} (h : Y.ownsRow base e s v n xs) (hb : Below Y.heap.size Y Z) : Z.ownsRow base e s v n xs := by
  refine ⟨h.1, ?_⟩
  rcases h.2 with h1 | ⟨k, cap, cur, e1, e2, hh, r⟩
  · exact .inl h1
  · exact .inr ⟨k, cap, cur, e1, e2, (hb.block k (Array.getElem?_eq_some_iff.1 hh).1).trans hh, r⟩
/-- the rows so far. -/
structure Nq (Y : World) (q N : Nat) (M : List (List Int)) (R K : Nat) (cv : Value) (vs : List Value) (i : Nat) : Prop where
  fld : Blk Y q 132 [cv, .int .i64 N, .slice none 0 0, .slice none 0 0, .slice none 0 0]
  own : OwnV (fun v : Value => v) Y (q + 1) 25 cv vs
  len : vs.length = i
  rows : ∀ j, j < i → ∃ b, vs[j]? = some (.slice (some ⟨b, 0, none⟩) N N) ∧ BlkI Y b 2 (sqRow M R K j) ∧ q < b
theorem Nq.next {Y Z : World} {q N : Nat} {M : List (List Int)} {R K : Nat} {cv : Value} {vs : List Value} {i : Nat} (h : Nq Y q N M R K cv vs i) (hb : Below Y.heap.size Y Z) : Nq Z q N M R K cv vs i :=
  ⟨h.fld.next hb, own_belowH h.own hb, h.len, fun j hj => by
    obtain ⟨b, h1, h2, h3⟩ := h.rows j hj
    exact ⟨b, h1, h2.next hb, h3⟩⟩
/-- a row is added. -/
theorem Nq.add {Y Z : World} {q N : Nat} {M : List (List Int)} {R K : Nat} {cv cv' : Value} {vs : List Value} {i g : Nat} (h : Nq Y q N M R K cv vs i) (hr : BlkI Y g 2 (sqRow M R K i)) (hg : q < g) (ho : OwnV (fun v : Value => v) Z (q + 1) 25 cv' (vs ++ [.slice (some ⟨g, 0, none⟩) N N])) (hgr : Y.grownBy Z cv.ownBlock) :
    Nq (Z.setCell ⟨q, 0, none⟩ cv') q N M R K cv' (vs ++ [.slice (some ⟨g, 0, none⟩) N N]) (i + 1) := by
  refine ⟨(h.fld.grownH h.own (by decide) hgr).set 0 cv', own_setH ho (by omega) _ _, by rw [List.length_append, h.len]; rfl, fun j hj => ?_⟩
  by_cases e : j = i
  · subst e
    refine ⟨g, by rw [List.getElem?_append_right (by rw [h.len]; exact Nat.le_refl _), h.len]; simp, ?_, hg⟩
    exact BlkI.other (Blk.grownH hr h.own (by decide) hgr) (by omega) _ _
  · obtain ⟨b, h1, h2, h3⟩ := h.rows j (by omega)
    refine ⟨b, by rw [List.getElem?_append_left (by rw [h.len]; omega)]; exact h1, ?_, h3⟩
    exact BlkI.other (Blk.grownH h2 h.own (by decide) hgr) (by omega) _ _
/-- all rows are there. -/
theorem Nq.mat {Y : World} {q N : Nat} {M : List (List Int)} {R K : Nat} {cv : Value} {vs : List Value} (h : Nq Y q N M R K cv vs N) (hN : N = R + K) (hR : M.length = R) (hK : ∀ l ∈ M, l.length = K) : ∃ A c, cv = .slice A N c ∧ MatAt Y Y.heap.size A (sqL M R K) := by
  obtain ⟨A, c, e, hs⟩ := h.own.sl
  rw [h.len] at e
  refine ⟨A, c, e, vs, by rw [h.len]; simp [sqL, hN], by simpa using hs, fun i row hr => ?_⟩
  unfold sqL at hr
  rw [List.getElem?_map] at hr
  have hi : i < R + K := by
    refine Nat.lt_of_not_le fun q => ?_
    rw [List.getElem?_eq_none (by simpa using q)] at hr
    cases hr
  rw [List.getElem?_range hi] at hr
  injection hr with hr
  obtain ⟨b, h1, h2, _⟩ := h.rows i (by omega)
  rw [hr] at h2
  have hl : row.length = N := by rw [← hr, sqRow_len hR hK, hN]
  exact ⟨some ⟨b, 0, none⟩, N, by rw [hl]; exact h1, blk_sl h2⟩
theorem splice_map {L cs : List Int} : splice (L.map (Value.int .i64)) 0 (cs.map (Value.int .i64)) = (splice L 0 cs).map (Value.int .i64) := by
  simp [splice]
/-- what the writes make of a row. -/
theorem row_made {M : List (List Int)} {R K i : Nat} {L : List Int} (hR : M.length = R) (hK : ∀ l ∈ M, l.length = K) (hi : i < R) (hL : L.length = R + K) (hinf : ∀ j, K ≤ j → j < R + K → mF L j = 4611686018427387904) :
    ((splice L 0 (M[i]?.getD [])).set (K + i) 140737488355328) = sqRow M R K i := by
  have hm := row_len hK (i := i) (by omega)
  have e : splice L 0 (M[i]?.getD []) = M[i]?.getD [] ++ L.drop K := by
    unfold splice
    rw [hm]
    simp
  have e2 : L.drop K = List.replicate R 4611686018427387904 := by
    refine List.ext_getElem? fun j => ?_
    rw [List.getElem?_drop, List.getElem?_replicate]
    by_cases h : j < R
    · rw [if_pos h, mF_lt (by omega), hinf _ (by omega) (by omega)]
    · rw [if_neg h, List.getElem?_eq_none (by omega)]
  rw [e, e2, sqRow, if_pos hi, List.set_append_right _ _ (by omega), hm, show K + i - K = i by omega]
/-- the square under way: its fields, its rows, the blocks made for it. -/
structure Stg (X Y : World) (q N : Nat) (M : List (List Int)) (R K : Nat) (cv : Value) (vs : List Value) (fl : List Value) (L : List (Nat × TypeId)) : Prop where
  fld : Blk Y q 132 fl
  own : OwnV (fun v : Value => v) Y (q + 1) 25 cv vs
  rows : ∀ j, j < N → ∃ b, vs[j]? = some (.slice (some ⟨b, 0, none⟩) N N) ∧ BlkI Y b 2 (sqRow M R K j) ∧ q < b
  made : ∀ x ∈ L, q < x.1 ∧ BlkI Y x.1 x.2 (List.replicate N 0)
  below : Below q X Y
theorem Stg.make {X Y : World} {q N : Nat} {M : List (List Int)} {R K : Nat} {cv : Value} {vs fl : List Value} {L : List (Nat × TypeId)} (h : Stg X Y q N M R K cv vs fl L) (T : TypeId) (f : Nat) (v : Value) :
    Stg X ((Y.setCell ⟨q, f, none⟩ v).alloc (.cells (madeCells #[.int .i64 0] N) T)) q N M R K cv vs (fl.set f v) ((Y.heap.size, T) :: L) := by
  have hlt := h.fld.lt
  obtain ⟨Z, hZ⟩ : ∃ Z, Z = Y.setCell ⟨q, f, none⟩ v := ⟨_, rfl⟩
  have hs : Z.heap.size = Y.heap.size := by rw [hZ]; simp
  have h1 := below_newH Z (.cells (madeCells #[.int .i64 0] N) T)
  have k1 := blk_new Z (List.replicate N (.int .i64 0)) T
  rw [← made_list, hs] at k1
  have g1 : Blk Z q 132 (fl.set f v) := by rw [hZ]; exact h.fld.set f v
  have g2 : OwnV (fun v : Value => v) Z (q + 1) 25 cv vs := by rw [hZ]; exact own_setH h.own (by omega) _ _
  have g3 : Below q X Z := by rw [hZ]; exact h.below.setCell (p := ⟨q, f, none⟩) (Nat.le_refl _) v
  have g4 : ∀ (b : Nat) (T : TypeId) (l : List Int), q < b → BlkI Y b T l → BlkI Z b T l := fun b T l hb hl => by rw [hZ]; exact hl.other (by omega) _ _
  rw [← hZ]
  refine ⟨g1.next h1, own_belowH g2 h1, fun j hj => ?_, fun x hx => ?_, g3.trans (h1.mono (by rw [hs]; exact Nat.le_of_lt hlt))⟩
  · obtain ⟨b, e1, e2, e3⟩ := h.rows j hj
    exact ⟨b, e1, (g4 _ _ _ e3 e2).next h1, e3⟩
  · rcases List.mem_cons.1 hx with e | e
    · subst e
      refine ⟨hlt, ?_⟩
      unfold BlkI
      rw [List.map_replicate]
      exact k1
    · obtain ⟨e1, e2⟩ := h.made x e
      exact ⟨e1, (g4 _ _ _ e1 e2).next h1⟩
/-- the matrix lies below what was the end of memory when its rows were made. -/
theorem Stg.mat {X Y Z : World} {q N : Nat} {M : List (List Int)} {R K : Nat} {A : Option Addr} {c : Nat} {vs fl : List Value} {L : List (Nat × TypeId)} (h0 : Nq Y q N M R K (.slice A N c) vs N) (h : Stg X Z q N M R K (.slice A N c) vs fl L) (hN : N = R + K) (hR : M.length = R) (hK : ∀ l ∈ M, l.length = K) : MatAt Z Y.heap.size A (sqL M R K) := by
  obtain ⟨A1, c1, e1, s1⟩ := h0.own.sl
  obtain ⟨A2, c2, e2, s2⟩ := h.own.sl
  injection e1 with e1 _ _
  injection e2 with e2 _ _
  subst e1 e2
  refine ⟨vs, by rw [h0.len]; simp [sqL, hN], fun j u hj => ?_, fun i row hr => ?_⟩
  · obtain ⟨b, o, e3, hb, _⟩ := s1 j u (by simpa using hj)
    obtain ⟨b', o', e4, _, hc⟩ := s2 j u (by simpa using hj)
    rw [e3] at e4
    injection e4 with e4
    injection e4 with q1 q2
    subst q1 q2
    exact ⟨b, o, e3, hb, hc⟩
  · unfold sqL at hr
    rw [List.getElem?_map] at hr
    have hi : i < R + K := by
      refine Nat.lt_of_not_le fun q => ?_
      rw [List.getElem?_eq_none (by simpa using q)] at hr
      cases hr
    rw [List.getElem?_range hi] at hr
    injection hr with hr
    obtain ⟨b, h1, h2, _⟩ := h0.rows i (by omega)
    obtain ⟨b', h3, h4, _⟩ := h.rows i (by omega)
    rw [h1] at h3
    injection h3 with h3
    injection h3 with h3 _ _
    injection h3 with h3
    injection h3 with h3 _
    subst h3
    have hl : row.length = N := by rw [← hr, sqRow_len hR hK, hN]
    rw [hr] at h2 h4
    refine ⟨some ⟨b, 0, none⟩, N, by rw [hl]; exact h1, fun j u hj => ⟨b, 0, rfl, h2.lt, ?_⟩⟩
    rw [Nat.zero_add]
    exact Blk.cell h4 hj
/-- what newSquare returns. -/
def RetSq (X : World) (M : List (List Int)) (R K : Nat) (e : Ending) (X' : World) : Prop :=
  ∃ B q bu bv bp A c, e = .returned (.pointer (some ⟨q, 0, none⟩)) ∧ Sq X' B q bu bv bp A c (R + K) (sqL M R K) (List.replicate (R + K) 0) (List.replicate (R + K) 0) (List.replicate (R + K) (-1)) ∧ X.heap.size ≤ B ∧ Below X.heap.size X X'
set_option maxRecDepth 100000 in
set_option maxHeartbeats 16000000 in
theorem newSquare_any (X : World) (A : Option Addr) (c : Nat) (M : List (List Int)) (R K : Nat) (hR : M.length = R) (h64 : R ≤ 64) (k64 : K ≤ 64) (hK : ∀ l ∈ M, l.length = K) (hat : MatAt X X.heap.size A M) :
    Calls Tryz.prog 72 #[.slice A R c, .int .i64 K] X (RetSq X M R K) := by
  obtain ⟨N, hN⟩ : ∃ N, N = R + K := ⟨_, rfl⟩
  have HH := Lib.hid (And.intro hR (And.intro hK (And.intro hat hN)))
  have wN : IntKind.i64.wrap ((R : Int) + (K : Int)) = (N : Int) := by rw [IntWalk.i64_in _ (by omega)]; omega
  have hm1 := fun W => make_i64H W N (by omega)
  have hm2 := fun W => make_intH W N (by omega)
  have HNQ : Hid (Nq (X.alloc (.cells #[.slice none 0 0, .int .i64 N, .slice none 0 0, .slice none 0 0, .slice none 0 0] 132)) X.heap.size N M R K (.slice none 0 0) [] 0) := Lib.hid ⟨blk_new _ [.slice none 0 0, .int .i64 N, .slice none 0 0, .slice none 0 0, .slice none 0 0] _, World.ownsRow_nil _ _ _ _, rfl, fun j hj => by omega⟩
  have HB0 := Lib.hid (below_newH X (.cells #[.slice none 0 0, .int .i64 N, .slice none 0 0, .slice none 0 0, .slice none 0 0] 132))
  have HRK := Lib.hid (show (R : Int) + (K : Int) = (N : Int) by omega)
  have hN128 : N ≤ 128 := by omega
  have hKN : K ≤ N := by omega
  have hRN : R ≤ N := by omega
  clear hR hK hat hN
  go_enter Tryz.func72, Tryz.ntmps72
  go_wp2_with fail

  clear wN
  go_loopw [22] (fun iv Y => ∃ (i : Nat) (cv : Value) (vs : List Value), i ≤ N ∧ iv = .int .i64 i ∧ Nq Y X.heap.size N M R K cv vs i ∧ Below X.heap.size X Y) (fun iv _ => N - (intOf iv).toNat)
  case atStart => exact ⟨0, _, _, Nat.zero_le _, rfl, HNQ.out, HB0.out⟩
  case round =>
    obtain ⟨i, cv, vs, hi, rfl, hnq, hbl⟩ := hrel
    have HQ := Lib.hid hnq
    have HB := Lib.hid hbl
    have f1 := hnq.fld.cell (j := 1) rfl
    have lq := hnq.fld.lt
    clear hnq hbl
    obtain ⟨wA, hwA⟩ : ∃ w', w' = wr := ⟨_, rfl⟩
    subst hwA
    by_cases hlt : i < N
    · have hlt' : (i : Int) < (N : Int) := by omega
      obtain ⟨W1, hW1⟩ : ∃ W, W = wA.alloc (.cells (madeCells #[.int .i64 0] N) 2) := ⟨_, rfl⟩
      have HW1 : Hid (Nq W1 X.heap.size N M R K cv vs i ∧ BlkI W1 wA.heap.size 2 (List.replicate N 0) ∧ Below wA.heap.size wA W1) := Lib.hid (by
        have h1 := below_newH wA (.cells (madeCells #[.int .i64 0] N) 2)
        have k1 := blk_new wA (List.replicate N (.int .i64 0)) 2
        rw [← made_list, ← hW1] at k1
        rw [← hW1] at h1
        refine ⟨HQ.out.next h1, ?_, h1⟩
        unfold BlkI
        rw [List.map_replicate]
        exact k1)
      have hgs : wA.heap.size < W1.heap.size := HW1.out.2.1.lt
      have c0 := HQ.out.fld.cell (j := 0) rfl
      by_cases hiR : i < R
      · have hiR' : (i : Int) < (R : Int) := by omega
        obtain ⟨mi, hmi⟩ : ∃ mi, M[i]? = some mi := ⟨M[i]'(by rw [HH.out.1]; exact hiR), List.getElem?_eq_getElem _⟩
        have HMI := Lib.hid (And.intro hmi (show mi.length = K from HH.out.2.1 mi (List.mem_of_getElem? hmi)))
        obtain ⟨ki, hki⟩ : ∃ ki, ki = K + i := ⟨_, rfl⟩
        have HKI := Lib.hid hki
        have wKi : IntKind.i64.wrap ((K : Int) + (i : Int)) = (ki : Int) := by rw [IntWalk.i64_in _ (by omega)]; omega
        have hkiN : ki < N := by have := HH.out.2.2.2; omega
        have hkiN' : (ki : Int) < (N : Int) := by omega
        clear hmi hki
        go_wp2_with fail
        rw [← hW1]
        go_loopw [9] (fun jv Y => ∃ (j : Nat) (L : List Int), K ≤ j ∧ j ≤ N ∧ jv = .int .i64 j ∧ L.length = N ∧ (∀ x, K ≤ x → x < j → mF L x = 4611686018427387904) ∧ BlkI Y wA.heap.size 2 L ∧ Below wA.heap.size wA Y) (fun jv _ => N - (intOf jv).toNat)
        case atStart => exact ⟨K, _, Nat.le_refl _, hKN, rfl, by simp, fun x h1 h2 => by omega, HW1.out.2.1, HW1.out.2.2⟩
        case round =>
          obtain ⟨j, L, hj1, hj2, rfl, hL, hinf, hrow, hbw⟩ := hrel
          have HR := Lib.hid (And.intro hL (And.intro hinf (And.intro hrow hbw)))
          have hfq : wr.cell? ⟨X.heap.size, 1, none⟩ = some (.int .i64 (N : Int)) := (hbw.cell (p := ⟨X.heap.size, 1, none⟩) lq).trans f1
          clear hL hinf hrow hbw
          by_cases hj : j < N
          · have hj' : (j : Int) < (N : Int) := by omega
            have cr := HR.out.2.2.1.cell (j := j) (by rw [HR.out.1]; exact hj)
            have zr := HR.out.2.2.1.free j
            have lr := HR.out.2.2.1.lt
            have HN := Lib.hid (And.intro (HR.out.2.2.1.set j 4611686018427387904) (HR.out.2.2.2.setCell (p := ⟨wA.heap.size, j, none⟩) (Nat.le_refl _) (.int .i64 4611686018427387904)))
            have HM := Lib.hid (mF_set (L := L) (k := j) (by rw [HR.out.1]; exact hj) 4611686018427387904)
            go_wp2_with fail
            go_roundw
            case rel =>
              refine ⟨j + 1, _, by omega, by omega, by go_num, by rw [List.length_set]; exact HR.out.1, fun x h1 h2 => ?_, HN.out.1, HN.out.2⟩
              rw [HM.out]
              by_cases e : x = j
              · rw [e, putF_eq]
              · rw [putF_ne _ e]; exact HR.out.2.1 x h1 (by omega)
            case measure => simp [intOf]; omega
          · have HJN := Lib.hid (show j = N by omega)
            have hj' : ¬ (j : Int) < (N : Int) := by omega
            have HMAT := Lib.hid (HH.out.2.2.1.below (HB.out.trans (HR.out.2.2.2.mono (Nat.le_of_lt lq))))
            have HROW : Hid (∃ b o A' c', A = some ⟨b, o, none⟩ ∧ wr.cell? ⟨b, o + i, none⟩ = some (.slice A' K c') ∧ Sl wr X.heap.size A' (mi.map (Value.int .i64))) := Lib.hid (by
              obtain ⟨b, o, A', c', e, _, hc, hs⟩ := HMAT.out.row HMI.out.1
              rw [HMI.out.2] at hc
              exact ⟨b, o, A', c', e, hc, hs⟩)
            obtain ⟨b, o, A', c', rfl, hcA, hsA⟩ := HROW.out
            have HSA := Lib.hid hsA
            have hgr : wr.heap[wA.heap.size]? = some (.cells (L.map (Value.int .i64)).toArray 2 (0, 0)) := HR.out.2.2.1
            have HCS : Hid ((mi.map (Value.int .i64)).length = Nat.min K N ∧ (0 < (mi.map (Value.int .i64)).length → ((some ⟨wA.heap.size, 0, none⟩ : Option Addr) = some ⟨wA.heap.size, 0, none⟩ ∧ ∃ ad, A' = some ad ∧ ∀ j v, (mi.map (Value.int .i64))[j]? = some v → wr.cell? (ad.add j) = some v)) ∧ 0 + (mi.map (Value.int .i64)).length ≤ (L.map (Value.int .i64)).length ∧ ∀ v ∈ mi.map (Value.int .i64), v.oneCell' = true) := Lib.hid (by
              rw [List.length_map, HMI.out.2]
              refine ⟨(Nat.min_eq_left hKN).symm, fun h0 => ⟨rfl, ?_⟩, by rw [List.length_map, HR.out.1]; omega, fun v hv => ?_⟩
              · obtain ⟨b2, o2, e2, _, _⟩ := HSA.out.num (j := 0) (by rw [HMI.out.2]; exact h0)
                subst e2
                refine ⟨_, rfl, fun j v hv => ?_⟩
                obtain ⟨b3, o3, e3, _, hc3⟩ := HSA.out j v hv
                injection e3 with e3
                injection e3 with q1 q2
                subst q1 q2
                rw [Addr.add_lit]
                exact hc3
              · obtain ⟨x, _, rfl⟩ := List.mem_map.1 hv
                rfl)
            clear hsA hj
            go_upto_region 14 with ((with_reducible refine hAt 50 rfl ?_); refine wpList_copy_splice rfl (.tmp 45) (.tmp 49) 25 25 rfl 2 Tryz.underlying25 (by kernel_rfl) (some ⟨wA.heap.size, 0, none⟩) A' N N K c' rfl rfl wA.heap.size 0 (L.map (Value.int .i64)) 2 hgr (mi.map (Value.int .i64)) HCS.out.1 HCS.out.2.1 HCS.out.2.2.1 HCS.out.2.2.2 wA.heap.size wA HR.out.2.2.2 (Nat.le_refl _) ?_; intro w3 hw3 hb3; have HR3 : Hid (BlkI w3 wA.heap.size 2 (splice L 0 mi) ∧ Below wA.heap.size wA w3) := (Lib.hid (by have h := hw3.out; rw [splice_map] at h; exact ⟨h, hb3⟩)); have cr := HR3.out.1.cell (j := ki) (by rw [length_splice _ _ _ (by rw [HMI.out.2, HR.out.1]; omega), HR.out.1]; exact hkiN); have zr := HR3.out.1.free ki; have lr := HR3.out.1.lt; clear hw3 hb3)
            obtain ⟨W4, hW4⟩ : ∃ W, W = w3.setCell ⟨wA.heap.size, ki, none⟩ (.int .i64 140737488355328) := ⟨_, rfl⟩
            rw [← hW4]
            have HN4 : Hid (Nq W4 X.heap.size N M R K cv vs i ∧ BlkI W4 wA.heap.size 2 (sqRow M R K i) ∧ Below wA.heap.size wA W4) := Lib.hid (by
              have h1 := HR3.out.2.setCell (p := ⟨wA.heap.size, ki, none⟩) (Nat.le_refl _) (.int .i64 140737488355328)
              have h2 := HR3.out.1.set ki 140737488355328
              rw [← hW4] at h1 h2
              refine ⟨HQ.out.next h1, ?_, h1⟩
              have h3 := row_made HH.out.1 HH.out.2.1 hiR (L := L) (by rw [HR.out.1]; exact HH.out.2.2.2) (fun j h1 h2 => HR.out.2.1 j h1 (by have := HJN.out; have := HH.out.2.2.2; omega))
              rw [HMI.out.1, ← HKI.out] at h3
              rw [← h3]
              exact h2)
            have hz4 : X.heap.size + 1 ≤ W4.heap.size := by have := HN4.out.2.1.lt; omega
            have c0' := HN4.out.1.fld.cell (j := 0) rfl
            have lq' := HN4.out.1.fld.lt
            clear hW4 cr zr lr hgr hcA hfq hW1 HW1 hgs
            go_wp2_with ((with_reducible refine hAt 63 rfl ?_); refine wpList_append_one (f := fun v : Value => v) _ rfl (.tmp 60) (.tmp 62) 56 rfl (X.heap.size + 1) 25 Tryz.underlying56 row_infoH rfl (by omega) _ _ W4 (.slice (some ⟨wA.heap.size, 0, none⟩) N N) rfl rfl rfl HN4.out.1.own rfl (by rw [HQ.out.len]; omega) hz4 ?_; intro v5 w5 hown5 hg5; obtain ⟨A5, c5, e5, _⟩ := hown5.sl; obtain ⟨n5, hn5⟩ : ∃ n, n = (vs ++ [(.slice (some ⟨wA.heap.size, 0, none⟩) N N : Value)]).length := ⟨_, rfl⟩; rw [← hn5] at e5; subst e5; clear hn5; have HF5 := Lib.hid (HN4.out.1.fld.grownH HN4.out.1.own (by decide) hg5); have cq5 := HF5.out.cell (j := 0) rfl; have zq5 := HF5.out.free 0; have lq5 := HF5.out.lt; have HADD := Lib.hid (HN4.out.1.add HN4.out.2.1 lq hown5 hg5); have HB5 := Lib.hid (((HN4.out.2.2.mono (Nat.le_of_lt lq)).grown hg5 (by have := HN4.out.2.2.size; omega) (fun k e => by have := OwnV.ge_base HN4.out.1.own k e; omega)).setCell (p := ⟨X.heap.size, 0, none⟩) (Nat.le_refl _) (.slice A5 n5 c5)); clear hown5 hg5)
            go_wp2_with fail
            go_roundw
            case rel => exact ⟨i + 1, .slice A5 n5 c5, _, by omega, by go_num, HADD.out, HB.out.trans HB5.out⟩
            case measure => simp [intOf]; omega
      · have hiR' : ¬ (i : Int) < (R : Int) := by omega
        have HN4 : Hid (Nq W1 X.heap.size N M R K cv vs i ∧ BlkI W1 wA.heap.size 2 (sqRow M R K i) ∧ Below wA.heap.size wA W1) := Lib.hid (by
          refine ⟨HW1.out.1, ?_, HW1.out.2.2⟩
          rw [sqRow, if_neg hiR, ← HH.out.2.2.2]
          exact HW1.out.2.1)
        have hz4 : X.heap.size + 1 ≤ W1.heap.size := by have := HN4.out.2.1.lt; omega
        go_upto_region 14 with fail
        rw [← hW1]
        have c0' := HN4.out.1.fld.cell (j := 0) rfl
        have lq' := HN4.out.1.fld.lt
        clear hW1 HW1 hgs
        go_wp2_with ((with_reducible refine hAt 63 rfl ?_); refine wpList_append_one (f := fun v : Value => v) _ rfl (.tmp 60) (.tmp 62) 56 rfl (X.heap.size + 1) 25 Tryz.underlying56 row_infoH rfl (by omega) _ _ W1 (.slice (some ⟨wA.heap.size, 0, none⟩) N N) rfl rfl rfl HN4.out.1.own rfl (by rw [HQ.out.len]; omega) hz4 ?_; intro v5 w5 hown5 hg5; obtain ⟨A5, c5, e5, _⟩ := hown5.sl; obtain ⟨n5, hn5⟩ : ∃ n, n = (vs ++ [(.slice (some ⟨wA.heap.size, 0, none⟩) N N : Value)]).length := ⟨_, rfl⟩; rw [← hn5] at e5; subst e5; clear hn5; have HF5 := Lib.hid (HN4.out.1.fld.grownH HN4.out.1.own (by decide) hg5); have cq5 := HF5.out.cell (j := 0) rfl; have zq5 := HF5.out.free 0; have lq5 := HF5.out.lt; have HADD := Lib.hid (HN4.out.1.add HN4.out.2.1 lq hown5 hg5); have HB5 := Lib.hid (((HN4.out.2.2.mono (Nat.le_of_lt lq)).grown hg5 (by have := HN4.out.2.2.size; omega) (fun k e => by have := OwnV.ge_base HN4.out.1.own k e; omega)).setCell (p := ⟨X.heap.size, 0, none⟩) (Nat.le_refl _) (.slice A5 n5 c5)); clear hown5 hg5)
        go_wp2_with fail
        go_roundw
        case rel => exact ⟨i + 1, .slice A5 n5 c5, _, by omega, by go_num, HADD.out, HB.out.trans HB5.out⟩
        case measure => simp [intOf]; omega
    · obtain rfl : N = i := by omega
      obtain ⟨A', c', hcv, hmat⟩ := HQ.out.mat HH.out.2.2.2 HH.out.1 HH.out.2.1
      subst hcv
      have HMAT := Lib.hid hmat
      have f2 := HQ.out.fld.cell (j := 2) rfl
      have f3 := HQ.out.fld.cell (j := 3) rfl
      have f4 := HQ.out.fld.cell (j := 4) rfl
      have z2 := HQ.out.fld.free 2
      have z3 := HQ.out.fld.free 3
      have z4 := HQ.out.fld.free 4
      clear hmat
      have HS0 : Hid (Stg X wA X.heap.size N M R K (.slice A' N c') vs [.slice A' N c', .int .i64 N, .slice none 0 0, .slice none 0 0, .slice none 0 0] []) := Lib.hid ⟨HQ.out.fld, HQ.out.own, HQ.out.rows, (fun x hx => by cases hx), HB.out⟩
      obtain ⟨Y1, hY1⟩ : ∃ W, W = (wA.setCell ⟨X.heap.size, 3, none⟩ (.slice (some ⟨wA.heap.size, 0, none⟩) N N)).alloc (.cells (madeCells #[.int .i64 0] N) 2) := ⟨_, rfl⟩
      have HS1 := Lib.hid (HS0.out.make 2 3 (.slice (some ⟨wA.heap.size, 0, none⟩) N N))
      rw [← hY1] at HS1
      have HSZ1 : Hid (Y1.heap.size = wA.heap.size + 1) := Lib.hid (by rw [hY1]; simp)
      go_upto_region 17 with fail
      rw [← hY1]
      have g4 := HS1.out.fld.cell (j := 4) rfl
      have g1 := HS1.out.fld.cell (j := 1) rfl
      have y4 := HS1.out.fld.free 4
      have ly1 := HS1.out.fld.lt
      obtain ⟨Y2, hY2⟩ : ∃ W, W = (Y1.setCell ⟨X.heap.size, 4, none⟩ (.slice (some ⟨Y1.heap.size, 0, none⟩) N N)).alloc (.cells (madeCells #[.int .i64 0] N) 2) := ⟨_, rfl⟩
      have HS2 := Lib.hid (HS1.out.make 2 4 (.slice (some ⟨Y1.heap.size, 0, none⟩) N N))
      rw [← hY2] at HS2
      have HSZ2 : Hid (Y2.heap.size = Y1.heap.size + 1) := Lib.hid (by rw [hY2]; simp)
      clear hY1 f2 f3 f4 z2 z3 z4 f1
      go_upto_region 18 with fail
      rw [← hY2]
      have k2 := HS2.out.fld.cell (j := 2) rfl
      have k1 := HS2.out.fld.cell (j := 1) rfl
      have x2 := HS2.out.fld.free 2
      have ly2 := HS2.out.fld.lt
      obtain ⟨Y3, hY3⟩ : ∃ W, W = (Y2.setCell ⟨X.heap.size, 2, none⟩ (.slice (some ⟨Y2.heap.size, 0, none⟩) N N)).alloc (.cells (madeCells #[.int .i64 0] N) 3) := ⟨_, rfl⟩
      have HS3 := Lib.hid (HS2.out.make 3 2 (.slice (some ⟨Y2.heap.size, 0, none⟩) N N))
      rw [← hY3] at HS3
      clear hY2 g4 g1 y4
      go_upto_region 19 with fail
      rw [← hY3]
      clear hY3 k2 k1 x2
      have HSQ : Hid (Sq Y3 wA.heap.size X.heap.size wA.heap.size Y1.heap.size Y2.heap.size A' c' N (sqL M R K) (List.replicate N 0) (List.replicate N 0) (List.replicate N 0)) := Lib.hid ⟨HS3.out.fld, Stg.mat HQ.out HS3.out HH.out.2.2.2 HH.out.1 HH.out.2.1, by simp [sqL, HH.out.2.2.2], (fun l hl => by
        unfold sqL at hl
        obtain ⟨j, _, rfl⟩ := List.mem_map.1 hl
        rw [sqRow_len HH.out.1 HH.out.2.1, HH.out.2.2.2]), lq, Nat.le_refl _, by have := HSZ1.out; have := HSZ2.out; omega, by have := HSZ1.out; have := HSZ2.out; omega, by have := HSZ1.out; have := HSZ2.out; omega, by have := HSZ1.out; have := HSZ2.out; omega, by have := HSZ1.out; have := HSZ2.out; omega, (HS3.out.made _ (List.mem_cons_of_mem _ (List.mem_cons_of_mem _ (List.mem_cons_self)))).2, (HS3.out.made _ (List.mem_cons_of_mem _ List.mem_cons_self)).2, (HS3.out.made _ List.mem_cons_self).2, by simp, by simp, by simp⟩
      have h2 := HSQ.out.fld.cell (j := 2) rfl
      go_wp2_with fail
      clear h2
      go_loopw [96] (fun iv Y => ∃ (k : Nat) (P : List Int), k ≤ N ∧ iv = .int .i64 k ∧ (∀ j, j < k → mF P j = -1) ∧ Sq Y wA.heap.size X.heap.size wA.heap.size Y1.heap.size Y2.heap.size A' c' N (sqL M R K) (List.replicate N 0) (List.replicate N 0) P ∧ Below X.heap.size X Y) (fun iv _ => N - (intOf iv).toNat)
      case atStart => exact ⟨0, _, Nat.zero_le _, rfl, fun j hj => by omega, HSQ.out, HS3.out.below⟩
      case round =>
        obtain ⟨k, P, hk, rfl, hall, hsq, hbl⟩ := hrel
        have HR := Lib.hid (And.intro hall (And.intro hsq hbl))
        have h2 := hsq.fld.cell (j := 2) rfl
        clear hall hsq hbl
        by_cases hlt : k < N
        · have hlt' : (k : Int) < (N : Int) := by omega
          have cp := HR.out.2.1.rp.cell (j := k) (by rw [HR.out.2.1.pl]; exact hlt)
          have zp := HR.out.2.1.rp.free k
          have lp := HR.out.2.1.rp.lt
          have HN := Lib.hid (And.intro (HR.out.2.1.setP k (-1)) (HR.out.2.2.setCell (p := ⟨Y2.heap.size, k, none⟩) (Nat.le_of_lt (Nat.lt_of_lt_of_le HR.out.2.1.qB HR.out.2.1.pB)) (.int .i64 (-1))))
          have HM := Lib.hid (mF_set (L := P) (k := k) (by rw [HR.out.2.1.pl]; exact hlt) (-1))
          go_wp2_with fail
          go_roundw
          case rel =>
            refine ⟨k + 1, _, by omega, by go_num, fun j hj => ?_, HN.out.1, HN.out.2⟩
            rw [HM.out]
            by_cases e : j = k
            · rw [e, putF_eq]
            · rw [putF_ne _ e]; exact HR.out.1 j (by omega)
          case measure => simp [intOf]; omega
        · obtain rfl : N = k := by omega
          have HE : Hid (P = List.replicate N (-1)) := Lib.hid (mF_ext (by rw [HR.out.2.1.pl]; simp) (fun j hj => by
            rw [HR.out.1 j (by rw [← HR.out.2.1.pl]; exact hj)]
            unfold mF
            rw [List.getElem?_replicate, if_pos (by rw [← HR.out.2.1.pl]; exact hj)]
            rfl))
          go_wp2_with fail
          go_ret
          refine ⟨wA.heap.size, X.heap.size, wA.heap.size, Y1.heap.size, Y2.heap.size, A', c', rfl, ?_, Nat.le_of_lt lq, HR.out.2.2⟩
          rw [← HH.out.2.2.2, ← HE.out]
          exact HR.out.2.1
end
section
open Go.RowKit Go.Maps

theorem below_drewH (X : World) (B n : Nat) : Below B X (X.drewN n) := ⟨rfl, rfl, rfl, Nat.le_refl _, fun _ _ => rfl⟩
set_option maxRecDepth 100000 in
set_option maxHeartbeats 8000000 in
theorem isCost_any (X : World) (x : Int) (h : isC x) : Calls Tryz.prog 71 #[.int .i64 x] X fun e X' => e = .returned (.bool true) ∧ X' = X := by
  rcases h with rfl | ⟨h1, h2⟩
  · go_enter Tryz.func71, Tryz.ntmps71
    go_wp2_with fail
    go_ret
    exact ⟨rfl, rfl⟩
  · go_enter Tryz.func71, Tryz.ntmps71
    go_wp2_with fail
    go_ret
    exact ⟨rfl, rfl⟩
set_option maxRecDepth 100000 in
set_option maxHeartbeats 16000000 in
theorem check_any (X : World) (A : Option Addr) (c : Nat) (M : List (List Int)) (R K : Nat) (hR : M.length = R) (h0 : 0 < R) (h64 : R ≤ 64) (k64 : K ≤ 64) (hK : ∀ l ∈ M, l.length = K) (hC : ∀ l ∈ M, ∀ x ∈ l, isC x) (hat : MatAt X X.heap.size A M) :
    Calls Tryz.prog 56 #[.slice A R c] X fun e X' => e = .returned (.tuple #[.int .i64 K, .int .i64 0]) ∧ Below X.heap.size X X' := by
  have hA : ∃ ab ao, A = some ⟨ab, ao, none⟩ := by
    obtain ⟨b, o, _, _, e, _⟩ := hat.row (i := 0) (row := M[0]'(by rw [hR]; exact h0)) (List.getElem?_eq_getElem _)
    exact ⟨b, o, e⟩
  obtain ⟨ab, ao, rfl⟩ := hA
  have hrow : ∀ (Y : World) (i : Nat), i < R → MatAt Y X.heap.size (some ⟨ab, ao, none⟩) M → ∃ A' c' row, M[i]? = some row ∧ Y.cell? ⟨ab, ao + i, none⟩ = some (.slice A' K c') ∧ Sl Y X.heap.size A' (row.map (Value.int .i64)) ∧ row.length = K ∧ ∀ x ∈ row, isC x := by
    intro Y i hi hm
    have hiM : i < M.length := by rw [hR]; exact hi
    have hmem := List.getElem_mem (l := M) hiM
    obtain ⟨b, o, A', c', e, _, hc, hs⟩ := hm.row (List.getElem?_eq_getElem hiM)
    injection e with e
    injection e with e1 e2
    subst e1 e2
    rw [hK _ hmem] at hc
    exact ⟨A', c', _, List.getElem?_eq_getElem hiM, hc, hs, hK _ hmem, hC _ hmem⟩
  have HRW := Lib.hid hrow
  have HAT := Lib.hid hat
  have h64i : ¬ ((64 : Int) < (R : Int)) := by omega
  have k64i : ¬ ((64 : Int) < (K : Int)) := by omega
  have h0i : ((R : Int) == 0) = false := by
    have : ¬ ((R : Int) = 0) := by omega
    simpa using this
  obtain ⟨A0, c0, _, _, z0, _⟩ := hrow X 0 h0 hat
  have hRi : (0 : Int) < (R : Int) := by omega
  clear hrow hat hR hK hC
  go_enter Tryz.func56, Tryz.ntmps56
  go_wp2_with fail
  clear z0
  go_loopw [16] (fun iv Y => ∃ i : Nat, i ≤ R ∧ iv = .int .i64 i ∧ Y = X) (fun iv _ => R - (intOf iv).toNat)
  case atStart => exact ⟨0, Nat.zero_le _, rfl, rfl⟩
  case round =>
    obtain ⟨i, hi, rfl, rfl⟩ := hrel
    by_cases hlt : i < R
    · have hlt' : (i : Int) < (R : Int) := by omega
      obtain ⟨A1, c1, _, _, z1, _⟩ := HRW.out wr i hlt HAT.out
      go_wp2_with fail
      go_roundw
      case rel => exact ⟨i + 1, by omega, by go_num, trivial⟩
      case measure => simp [intOf]; omega
    · obtain rfl : R = i := by omega
      obtain ⟨A0, c0, _, _, z0, _⟩ := HRW.out wr 0 h0 HAT.out
      rw [Nat.add_zero] at z0
      obtain ⟨wX, hwX⟩ : ∃ w', w' = wr := ⟨_, rfl⟩
      subst hwX
      go_wp2_with fail
      clear z0
      go_loopw [33] (fun iv Y => ∃ i : Nat, i ≤ R ∧ iv = .int .i64 i ∧ Below wX.heap.size wX Y) (fun iv _ => R - (intOf iv).toNat)
      case atStart => exact ⟨0, Nat.zero_le _, rfl, Below.refl _ _⟩
      case round =>
        obtain ⟨i, hi, rfl, hb⟩ := hrel
        have HB := Lib.hid hb
        clear hb
        by_cases hlt : i < R
        · have hlt' : (i : Int) < (R : Int) := by omega
          obtain ⟨wA, hwA⟩ : ∃ w', w' = wr := ⟨_, rfl⟩
          subst hwA
          obtain ⟨A1, c1, row, _, z1, hs, hl, hc⟩ := HRW.out wA i hlt (HAT.out.below HB.out)
          have HW := Lib.hid (And.intro hs (And.intro hl hc))
          clear hs hl hc
          go_wp2_with fail
          clear z1
          go_loopw [43] (fun iv Y => ∃ k : Nat, k ≤ K ∧ iv = .int .i64 k ∧ Below wX.heap.size wX Y ∧ Sl Y wX.heap.size A1 (row.map (Value.int .i64))) (fun iv _ => K - (intOf iv).toNat)
          case atStart => exact ⟨0, Nat.zero_le _, rfl, HB.out, HW.out.1⟩
          case round =>
            obtain ⟨k, hk, rfl, hb, hs⟩ := hrel
            have HR := Lib.hid (And.intro hb hs)
            clear hb hs
            by_cases hlk : k < K
            · have hlk' : (k : Int) < (K : Int) := by omega
              obtain ⟨b1, o1, rfl, _, z1⟩ := HR.out.2.num (j := k) (by rw [HW.out.2.1]; exact hlk)
              have HI := Lib.hid (isCost_any wr (mF row k) (HW.out.2.2 _ (List.mem_of_getElem? (mF_lt (by rw [HW.out.2.1]; exact hlk)))))
              go_wp2_with fail
              refine HI.out.mono ?_
              rintro e X0 ⟨rfl, hX0⟩
              rw [hX0]
              clear hX0 X0 HI
              go_wp2_with fail
              go_roundw
              case rel => exact ⟨k + 1, by omega, by go_num, HR.out.1, HR.out.2⟩
              case measure => simp [intOf]; omega
            · obtain rfl : K = k := by omega
              go_wp2_with fail
              go_roundw
              case rel => exact ⟨i + 1, by omega, by go_num, HR.out.1⟩
              case measure => simp [intOf]; omega
        · obtain rfl : R = i := by omega
          go_wp2_with fail
          go_ret2
          exact ⟨rfl, HB.out⟩
end
section
open Go.RowKit Go.Maps

theorem flat_put {α : Type} {cs : α → List Value} {s : Nat} (hs : ∀ a, (cs a).length = s) : ∀ {xs : List α} {k j : Nat} {u z : α} {v : Value}, xs[k]? = some u → cs z = (cs u).set j v → j < s → (xs.flatMap cs).set (k * s + j) v = (xs.set k z).flatMap cs
  | [], k, j, u, z, v, h, _, _ => by simp at h
  | x :: xs, 0, j, u, z, v, h, hz, hj => by
    simp only [List.getElem?_cons_zero, Option.some.injEq] at h
    subst h
    rw [List.set_cons_zero, List.flatMap_cons, List.flatMap_cons, Nat.zero_mul, Nat.zero_add, List.set_append_left _ _ (by rw [hs]; exact hj), hz]
  | x :: xs, k + 1, j, u, z, v, h, hz, hj => by
    rw [List.getElem?_cons_succ] at h
    have ih := flat_put hs (v := v) h hz hj
    have e : (k + 1) * s + j - s = k * s + j := by rw [Nat.add_mul]; omega
    rw [List.set_cons_succ, List.flatMap_cons, List.flatMap_cons, List.set_append_right _ _ (by rw [hs, Nat.add_mul]; omega), hs, e, ih]
def sentU (u : UnitT) (x : Int) : UnitT := { u with state := 2, inc := x }
theorem own_sent {w : World} {base g n c : Nat} {us : List UnitT} (h : OwnU w base 43 (.slice (some ⟨g, 0, none⟩) n c) us) {k : Nat} {u : UnitT} (hk : us[k]? = some u) (x : Int) :
    OwnU ((w.setCell ⟨g, k * 10 + 3, none⟩ (.int .i64 2)).setCell ⟨g, k * 10 + 7, none⟩ (.int .i64 x)) base 43 (.slice (some ⟨g, 0, none⟩) n c) (us.set k (sentU u x)) := by
  have hn := h.caps.1
  subst hn
  have hlt := (List.getElem?_eq_some_iff.1 hk).1
  have h' : w.ownsRow base 43 10 (.slice (some ⟨g, 0, none⟩) us.length c) us.length (us.flatMap cellsU) := h
  have h1 := ((h'.stored (k * 10 + 3) (.int .i64 2)).1.stored (k * 10 + 7) (.int .i64 x)).1
  rw [flat_put cellsU_len (z := { u with state := 2 }) hk rfl (by omega), flat_put cellsU_len (k := k) (z := sentU u x) (u := { u with state := 2 }) (by rw [List.getElem?_set_self hlt]) rfl (by omega), List.set_set] at h1
  unfold OwnU OwnR
  rw [List.length_set]
  exact h1
/-- the units, k of them looked at. -/
def Snt (us : List UnitT) (c : ChoT) (k : Nat) (L : List UnitT) : Prop := L.length = us.length ∧ (∀ j, j < k → L[j]? = (sendU us c)[j]?) ∧ ∀ j, k ≤ j → L[j]? = us[j]?
theorem Snt.start (us : List UnitT) (c : ChoT) : Snt us c 0 us := ⟨rfl, fun j hj => by omega, fun _ _ => rfl⟩
theorem Snt.put {us L : List UnitT} {c : ChoT} {k : Nat} {u : UnitT} (h : Snt us c k L) (hk : us[k]? = some u) (he : u.id = c.unit) : Snt us c (k + 1) (L.set k (sentU u c.inc)) := by
  have hlt := (List.getElem?_eq_some_iff.1 hk).1
  refine ⟨by rw [List.length_set]; exact h.1, fun j hj => ?_, fun j hj => by rw [List.getElem?_set_ne (by omega)]; exact h.2.2 j (by omega)⟩
  by_cases e : j = k
  · subst e
    rw [List.getElem?_set_self (by rw [h.1]; exact hlt)]
    unfold sendU
    rw [List.getElem?_map, hk]
    simp [he, sentU]
  · rw [List.getElem?_set_ne (by omega)]
    exact h.2.1 j (by omega)
theorem Snt.skip {us L : List UnitT} {c : ChoT} {k : Nat} {u : UnitT} (h : Snt us c k L) (hk : us[k]? = some u) (he : u.id ≠ c.unit) : Snt us c (k + 1) L := by
  refine ⟨h.1, fun j hj => ?_, fun j hj => h.2.2 j (by omega)⟩
  by_cases e : j = k
  · subst e
    rw [h.2.2 j (Nat.le_refl _), hk]
    unfold sendU
    rw [List.getElem?_map, hk]
    simp [he]
  · exact h.2.1 j (by omega)
theorem Snt.done {us L : List UnitT} {c : ChoT} (h : Snt us c us.length L) : L = sendU us c := by
  refine List.ext_getElem? fun j => ?_
  by_cases e : j < us.length
  · exact h.2.1 j e
  · rw [h.2.2 j (by omega), List.getElem?_eq_none (by omega), List.getElem?_eq_none (by rw [sendU_len]; omega)]
def choV (c : ChoT) : Value := .agg #[.int .i64 c.inc, .int .i64 c.kind, .int .i64 c.unit, .int .i64 c.time]
/-- what send brings about. -/
def RetSend (X : World) (base g n c0 : Nat) (us : List UnitT) (c : ChoT) (e : Ending) (X' : World) : Prop :=
  e = .returned (.tuple #[]) ∧ OwnU X' base 43 (.slice (some ⟨g, 0, none⟩) n c0) (sendU us c) ∧ Only (fun j => j = g) X X'
set_option maxRecDepth 100000 in
set_option maxHeartbeats 16000000 in
theorem send_any (X : World) (base g n c0 : Nat) (us : List UnitT) (c : ChoT) (hl : us.length ≤ 65536) (hown : OwnU X base 43 (.slice (some ⟨g, 0, none⟩) n c0) us) :
    Calls Tryz.prog 43 #[.slice (some ⟨g, 0, none⟩) n c0, .agg #[.int .i64 c.inc, .int .i64 c.kind, .int .i64 c.unit, .int .i64 c.time]] X (RetSend X base g n c0 us c) := by
  have hn := hown.caps.1
  have hg := hown.one.1
  obtain ⟨W, hW⟩ : ∃ W, W = X.alloc (.cells #[.int .i64 c.inc, .int .i64 c.kind, .int .i64 c.unit, .int .i64 c.time] 41) := ⟨_, rfl⟩
  have hbx := blk_new X [.int .i64 c.inc, .int .i64 c.kind, .int .i64 c.unit, .int .i64 c.time] 41
  have HW : Hid (OwnU W base 43 (.slice (some ⟨g, 0, none⟩) n c0) us ∧ Blk W X.heap.size 41 [.int .i64 c.inc, .int .i64 c.kind, .int .i64 c.unit, .int .i64 c.time] ∧ Only (fun j => j = g) X W) := Lib.hid (by
    rw [hW]
    exact ⟨hown.alloc _, hbx, Only.of_below (below_newH X _)⟩)
  clear hown hbx
  go_enter Tryz.func43, Tryz.ntmps43
  go_upto_region 1 with fail
  rw [← hW]
  clear hW
  go_wp2_with fail
  go_loopw [7] (fun iv Y => ∃ (k : Nat) (L : List UnitT), k ≤ n ∧ iv = .int .i64 k ∧ Snt us c k L ∧ OwnU Y base 43 (.slice (some ⟨g, 0, none⟩) n c0) L ∧ Blk Y X.heap.size 41 [.int .i64 c.inc, .int .i64 c.kind, .int .i64 c.unit, .int .i64 c.time] ∧ Only (fun j => j = g) X Y) (fun iv _ => n - (intOf iv).toNat)
  case atStart => exact ⟨0, us, Nat.zero_le _, rfl, Snt.start _ _, HW.out⟩
  case round =>
    obtain ⟨k, L, hk, rfl, h1, h2, h3, h4⟩ := hrel
    have HR := Lib.hid (And.intro h1 (And.intro h2 (And.intro h3 h4)))
    have q0 := h3.cell (j := 0) rfl
    have q2 := h3.cell (j := 2) rfl
    clear h1 h2 h3 h4
    by_cases hlt : k < n
    · have hlt' : (k : Int) < (n : Int) := by omega
      obtain ⟨u, hu⟩ : ∃ u, us[k]? = some u := ⟨_, List.getElem?_eq_getElem (by omega)⟩
      have HU := Lib.hid hu
      have hLu : L[k]? = some u := by rw [HR.out.1.2.2 k (Nat.le_refl _)]; exact hu
      have r0 := (OwnR.read cellsU_len HR.out.2.1 hLu (j := 0) rfl).1
      rw [Nat.add_zero] at r0
      have r3 := (OwnR.read cellsU_len HR.out.2.1 hLu (j := 3) rfl).1
      have z3 := (OwnR.read cellsU_len HR.out.2.1 hLu (j := 3) rfl).2
      have r7 := (OwnR.read cellsU_len HR.out.2.1 hLu (j := 7) rfl).1
      have z7 := (OwnR.read cellsU_len HR.out.2.1 hLu (j := 7) rfl).2
      have HLU := Lib.hid hLu
      clear hLu hu
      by_cases he : u.id = c.unit
      · have he' : (u.id == c.unit) = true := by simpa using he
        go_wp2_with fail
        go_quiet (fail)
        go_wp2_with fail
        go_roundw
        case rel => exact ⟨k + 1, L.set k (sentU u c.inc), by omega, by go_num, HR.out.1.put HU.out he, own_sent (HR.out.2.1.drewN _) HLU.out c.inc, (HR.out.2.2.1.other (by omega) _ _).other (by omega) _ _, ((HR.out.2.2.2.drewN _).setCell (a := ⟨g, k * 10 + 3, none⟩) (fun _ => rfl) _).setCell (a := ⟨g, k * 10 + 7, none⟩) (fun _ => rfl) _⟩
        case measure => simp [intOf]; omega
      · have he' : (u.id == c.unit) = false := by simpa using he
        go_wp2_with fail
        go_quiet (fail)
        go_wp2_with fail
        go_roundw
        case rel => exact ⟨k + 1, L, by omega, by go_num, HR.out.1.skip HU.out he, HR.out.2.1, HR.out.2.2.1, HR.out.2.2.2.drewN _⟩
        case measure => simp [intOf]; omega
    · obtain rfl : n = k := by omega
      go_wp2_with fail
      first | refine bodyPost_end (results_none rfl _ _ _) rfl ?_ | refine bodyPost_ret (v := .tuple #[]) (results_none rfl _ _ _) rfl ?_
      refine ⟨rfl, ?_, HR.out.2.2.2⟩
      have := HR.out.1
      rw [hn] at this
      rw [← this.done]
      exact HR.out.2.1
end
section
open Go.RowKit Go.Maps

set_option maxRecDepth 100000 in
set_option maxHeartbeats 4000000 in
theorem limS_any (X : World) (A : Option Addr) (n c : Nat) (hn : n ≤ c) (hc : c ≤ 9223372036854775807) : Calls Tryz.prog 53 #[.slice A n c] X fun e X' => e = .returned (.slice A (min n 64) c) ∧ X' = X := by
  by_cases h : n ≤ 64
  · rw [Nat.min_eq_left h]
    have h1 : min (n : Int) 64 = (n : Int) := by omega
    go_enter Tryz.func53, Tryz.ntmps53
    go_wp2_with fail
    go_ret
    exact ⟨rfl, rfl⟩
  · rw [Nat.min_eq_right (by omega)]
    have h1 : min (n : Int) 64 = 64 := by omega
    go_enter Tryz.func53, Tryz.ntmps53
    go_wp2_with fail
    go_ret
    exact ⟨rfl, rfl⟩

set_option maxRecDepth 100000 in
set_option maxHeartbeats 4000000 in
theorem limI_any (X : World) (A : Option Addr) (n c : Nat) (hn : n ≤ c) (hc : c ≤ 9223372036854775807) : Calls Tryz.prog 55 #[.slice A n c] X fun e X' => e = .returned (.slice A (min n 64) c) ∧ X' = X := by
  by_cases h : n ≤ 64
  · rw [Nat.min_eq_left h]
    have h1 : min (n : Int) 64 = (n : Int) := by omega
    go_enter Tryz.func55, Tryz.ntmps55
    go_wp2_with fail
    go_ret
    exact ⟨rfl, rfl⟩
  · rw [Nat.min_eq_right (by omega)]
    have h1 : min (n : Int) 64 = 64 := by omega
    go_enter Tryz.func55, Tryz.ntmps55
    go_wp2_with fail
    go_ret
    exact ⟨rfl, rfl⟩
end
end Go.Proofs.YtimijjhdgihobaaGreatDoor
