/-
  assignment.square: tight, shift; slices.Index.
  A queue of columns: s = s[1:], s = append(s, x); what holds under way in assignment.square.advance.
-/
import Derived.Test.YtimijjhdgihobaaGreatDoorMqw
import Derived.ArgAppend
namespace Go.Proofs.YtimijjhdgihobaaGreatDoor
section
open Go.RowKit Go.Maps

def tgB (C : Nat → Nat → Int) (u v : Nat → Int) (i j : Nat) : Bool := (C i j != 4611686018427387904) && (C i j == u i + v j)
theorem tgB_iff {C : Nat → Nat → Int} {u v : Nat → Int} {i j : Nat} : tgB C u v i j = true ↔ Tg C u v i j := by
  unfold tgB Tg
  simp
theorem Sq.drew {X : World} {B q bu bv bp : Nat} {A : Option Addr} {c N : Nat} {C : List (List Int)} {U V P : List Int} (h : Sq X B q bu bv bp A c N C U V P) (n : Nat) : Sq (X.drewN n) B q bu bv bp A c N C U V P :=
  { h with fld := h.fld, mat := h.mat.below ⟨rfl, rfl, rfl, Nat.le_refl _, fun _ _ => rfl⟩, ru := h.ru, rv := h.rv, rp := h.rp }
set_option maxRecDepth 100000 in
set_option maxHeartbeats 8000000 in
theorem tight_any (X : World) (B q bu bv bp : Nat) (A : Option Addr) (c N : Nat) (C : List (List Int)) (U V P : List Int) (i j : Nat) (hi : i < N) (hj : j < N) (h : Sq X B q bu bv bp A c N C U V P) (hu : -1152921504606846976 ≤ mF U i ∧ mF U i ≤ 1152921504606846976) (hv : -1152921504606846976 ≤ mF V j ∧ mF V j ≤ 1152921504606846976) :
    Calls Tryz.prog 92 #[.pointer (some ⟨q, 0, none⟩), .int .i64 i, .int .i64 j] X fun e X' => e = .returned (.bool (tgB (cF C) (mF U) (mF V) i j)) ∧ ∃ n, X' = X.drewN n := by
  have hA : ∃ ab ao, A = some ⟨ab, ao, none⟩ := by
    obtain ⟨b, o, _, _, e, _⟩ := h.mat.row (i := i) (row := C[i]'(by rw [h.cl]; exact hi)) (List.getElem?_eq_getElem _)
    exact ⟨b, o, e⟩
  obtain ⟨ab, ao, rfl⟩ := hA
  obtain ⟨_, b2, o2, c2, _, e1, e2⟩ := h.mat.num h.rl (i := i) (j := j) (by rw [h.cl]; exact hi) hj
  have f0 := h.fld.cell (j := 0) rfl
  have f3 := h.fld.cell (j := 3) rfl
  have f4 := h.fld.cell (j := 4) rfl
  have cu := h.ru.cell (j := i) (by rw [h.ul]; exact hi)
  have cv := h.rv.cell (j := j) (by rw [h.vl]; exact hj)
  obtain ⟨x, hx⟩ : ∃ x, x = cF C i j := ⟨_, rfl⟩
  obtain ⟨u, hu'⟩ : ∃ x, x = mF U i := ⟨_, rfl⟩
  obtain ⟨v, hv'⟩ : ∃ x, x = mF V j := ⟨_, rfl⟩
  have HT : Hid (tgB (cF C) (mF U) (mF V) i j = ((x != 4611686018427387904) && (x == u + v))) := Lib.hid (by unfold tgB; rw [hx, hu', hv'])
  rw [← hx] at e2
  rw [← hu'] at cu hu
  rw [← hv'] at cv hv
  have w1 : IntKind.i64.wrap (u + v) = u + v := IntWalk.i64_in _ (by omega)
  have hi' : (i : Int) < (N : Int) := by omega
  have hj' : (j : Int) < (N : Int) := by omega
  rw [HT.out]
  clear hx hu' hv' h hu hv
  by_cases hif : x = 4611686018427387904
  · subst hif
    go_enter Tryz.func92, Tryz.ntmps92
    go_wp2_with fail
    go_quiet (fail)
    go_wp2_with fail
    go_ret
    exact ⟨rfl, _, rfl⟩
  · have hb : (x != 4611686018427387904) = true := by simpa using hif
    rw [hb, Bool.true_and]
    go_enter Tryz.func92, Tryz.ntmps92
    go_wp2_with fail
    go_quiet (fail)
    go_wp2_with fail
    go_ret
    exact ⟨rfl, _, rfl⟩
set_option maxRecDepth 100000 in
theorem index_any (X : World) (B : Nat) (A : Option Addr) (c : Nat) (L : List Int) (v : Int) (k : Nat) (hs : Sl X B A (L.map (Value.int .i64))) (hN : L.length ≤ 65536) (hk : k < L.length) (hv : mF L k = v) (hno : ∀ j, j < k → mF L j ≠ v) :
    Calls Tryz.prog 91 #[.slice A L.length c, .int .i64 v] X fun e X' => e = .returned (.int .i64 k) ∧ X' = X := by
  have HS := Lib.hid hs
  have HV := Lib.hid (And.intro hv hno)
  obtain ⟨b0, o0, rfl, _, _⟩ := hs.num hk
  obtain ⟨n, hn⟩ : ∃ n, n = L.length := ⟨_, rfl⟩
  have HN := Lib.hid hn
  rw [← hn] at hN hk ⊢
  clear hs hv hno hn
  go_enter Tryz.func91, Tryz.ntmps91
  go_wp2_with fail
  go_loopw [8] (fun iv Y => ∃ j : Nat, j ≤ k ∧ iv = .int .i64 j ∧ Y = X) (fun iv _ => n - (intOf iv).toNat)
  case atStart => exact ⟨0, Nat.zero_le _, rfl, rfl⟩
  case round =>
    obtain ⟨j, hj, rfl, rfl⟩ := hrel
    have hjn : (j : Int) < (n : Int) := by omega
    obtain ⟨b1, o1, e, hb, hc⟩ := HS.out.num (j := j) (by have := HN.out; omega)
    injection e with e
    injection e with q1 q2
    subst q1 q2
    clear hb
    by_cases hjk : j = k
    · subst hjk
      rw [HV.out.1] at hc
      go_wp2_with fail
      go_ret
      exact ⟨rfl, rfl⟩
    · have hne : (v == mF L j) = false := by
        rw [beq_eq_false_iff_ne]
        exact fun q => HV.out.2 j (by omega) q.symm
      go_wp2_with fail
      go_roundw
      case rel => exact ⟨j + 1, by omega, by go_num, trivial⟩
      case measure => simp [intOf]; omega
theorem putF_cast {P : List Int} {qf : Nat → Nat} {N k r : Nat} (h : ∀ j, j < N → mF P j = qf j) (hk : k < P.length) : ∀ j, j < N → mF (P.set k (r : Int)) j = (putF qf k r j : Nat) := by
  intro j hj
  rw [mF_set hk]
  by_cases e : j = k
  · rw [e, putF_eq, putF_eq]
  · rw [putF_ne _ e, putF_ne _ e]
    exact h j hj
set_option maxRecDepth 100000 in
set_option maxHeartbeats 8000000 in
theorem shift_any (X : World) (B q bu bv bp : Nat) (A : Option Addr) (c N : Nat) (C : List (List Int)) (U V P : List Int) (p : Nat → Nat) (row home j0 bt : Nat) (TW : List Int) (rk : Nat → Nat) (t : Nat) (h : Sq X B q bu bv bp A c N C U V P) (hp : Pf (cF C) N (mF U) (mF V) p) (hpp : ∀ j, j < N → mF P j = p j)
    (hb : Bf (cF C) N (mF U) (mF V) p row home (mF TW) rk t) (hrow : row < N) (hh : home < N) (hpr : p home = row) (hj0 : j0 < N) (hjh : j0 ≠ home) (hz : Zn home (mF TW) j0) (ht : Tg (cF C) (mF U) (mF V) row j0) (hbt : BlkI X bt 3 TW) (hTl : TW.length = N) (hBt : B ≤ bt) (hbp : bt ≠ bp) :
    Calls Tryz.prog 93 #[.pointer (some ⟨q, 0, none⟩), .int .i64 row, .int .i64 j0, .slice (some ⟨bt, 0, none⟩) N N] X fun e X' => e = .returned (.tuple #[]) ∧ ∃ P' p', Sq X' B q bu bv bp A c N C U V P' ∧ (∀ j, j < N → mF P' j = (p' j : Nat)) ∧ Sd (cF C) N (mF U) (mF V) p row j0 p' ∧ Below B X X' := by
  have HP := Lib.hid (And.intro hp (And.intro hb (And.intro hh (And.intro hpr hjh))))
  have HST := Lib.hid (Sh.start hp hb hrow hh hpr hj0 ht)
  have HX := Lib.hid (And.intro h (And.intro hbt (And.intro hpp hz)))
  have HT := Lib.hid (And.intro hTl (And.intro hBt hbp))
  clear h hp hpp hb hrow hh hpr hj0 hjh hz ht hbt hTl hBt hbp
  go_enter Tryz.func93, Tryz.ntmps93
  go_wp2_with fail
  go_loopw [1, 2] (fun rv cv Y => ∃ (r : Nat) (cc : Int) (P5 : List Int) (qf : Nat → Nat), rv = .int .i64 r ∧ cv = .int .i64 cc ∧ Sq Y B q bu bv bp A c N C U V P5 ∧ BlkI Y bt 3 TW ∧ Below B X Y ∧ (∀ j, j < N → mF P5 j = (qf j : Nat)) ∧ ((∃ cn : Nat, cc = cn ∧ Zn home (mF TW) cn ∧ Sh (cF C) N (mF U) (mF V) p row home j0 rk qf r cn) ∨ (cc < 0 ∧ Sd (cF C) N (mF U) (mF V) p row j0 qf))) (fun _ cv _ => if intOf cv < 0 then 0 else rk (intOf cv).toNat + 1)
  case atStart => exact ⟨row, (j0 : Int), P, p, rfl, rfl, HX.out.1, HX.out.2.1, Below.refl _ _, HX.out.2.2.1, .inl ⟨j0, rfl, HX.out.2.2.2, HST.out⟩⟩
  case round =>
    obtain ⟨r, cc, P5, qf, rfl, rfl, hsq, hbt, hbl, hq, hor⟩ := hrel
    have HR := Lib.hid (And.intro hsq (And.intro hbt (And.intro hbl hq)))
    clear hsq hbt hbl hq
    rcases hor with ⟨cn, rfl, hzn, hsh⟩ | ⟨hneg, hsd⟩
    · have hcn := hsh.lt
      have hcn' : (cn : Int) < (N : Int) := by omega
      have dc : decide ((0 : Int) ≤ (cn : Int)) = true := decide_eq_true (by omega)
      have cp := HR.out.1.rp.cell (j := cn) (by rw [HR.out.1.pl]; exact hcn)
      rw [HR.out.2.2.2 cn hcn] at cp
      have zp := HR.out.1.rp.free cn
      have lp := HR.out.1.rp.lt
      have f2 := HR.out.1.fld.cell (j := 2) rfl
      have ct := HR.out.2.1.cell (j := cn) (by rw [HT.out.1]; exact hcn)
      have hqp : ¬ q = bp := by have := HR.out.1.qB; have := HR.out.1.pB; omega
      have htp := HT.out.2.2
      have HM := Lib.hid (And.intro ((HR.out.1.setP cn (r : Int)).drew 1) (And.intro (show BlkI ((wr.setCell ⟨bp, cn, none⟩ (.int .i64 (r : Int))).drewN 1) bt 3 TW from HR.out.2.1.other HT.out.2.2 cn (.int .i64 (r : Int))) (And.intro (show Below B X ((wr.setCell ⟨bp, cn, none⟩ (.int .i64 (r : Int))).drewN 1) from (by
        have h1 := HR.out.2.2.1.setCell (p := ⟨bp, cn, none⟩) HR.out.1.pB (.int .i64 (r : Int))
        exact ⟨h1.os, h1.tape, h1.output, h1.size, h1.block⟩)) (putF_cast (r := r) HR.out.2.2.2 (by rw [HR.out.1.pl]; exact hcn)))))
      rcases HP.out.2.1.twr cn hcn with e | ⟨x, hx, e, h3, h4, h5, h6⟩
      · rw [e] at ct
        have HD := Lib.hid (Sh.done HP.out.1 HP.out.2.1 HP.out.2.2.1 HP.out.2.2.2.1 HP.out.2.2.2.2 hzn hsh (show mF TW cn < 0 by omega))
        clear hzn hsh e
        go_wp2_with fail
        go_region
        go_wp2_with fail
        go_roundw
        case rel => exact ⟨qf cn, -1, _, _, rfl, rfl, HM.out.1, HM.out.2.1, HM.out.2.2.1, HM.out.2.2.2, .inr ⟨by decide, HD.out⟩⟩
        case measure =>
          have q2 : ¬ (cn : Int) < 0 := by omega
          show (if (-1 : Int) < 0 then 0 else rk ((-1 : Int)).toNat + 1) < (if (cn : Int) < 0 then 0 else rk ((cn : Int)).toNat + 1)
          rw [if_pos (by decide), if_neg q2]
          omega
      · rw [e] at ct
        have HN := Lib.hid (Sh.step HP.out.1 HP.out.2.1 HP.out.2.2.1 hsh e)
        have HZ := Lib.hid h5
        clear hzn hsh e h3 h4 h5 h6
        go_wp2_with fail
        go_region
        go_wp2_with fail
        go_roundw
        case rel => exact ⟨qf cn, (x : Int), _, _, rfl, rfl, HM.out.1, HM.out.2.1, HM.out.2.2.1, HM.out.2.2.2, .inl ⟨x, rfl, HZ.out, HN.out.2.2⟩⟩
        case measure =>
          have := HN.out.2.1
          have q1 : ¬ (x : Int) < 0 := by omega
          have q2 : ¬ (cn : Int) < 0 := by omega
          show (if (x : Int) < 0 then 0 else rk ((x : Int)).toNat + 1) < (if (cn : Int) < 0 then 0 else rk ((cn : Int)).toNat + 1)
          rw [if_neg q1, if_neg q2, Int.toNat_natCast, Int.toNat_natCast]
          omega
    · have dc : decide ((0 : Int) ≤ cc) = false := decide_eq_false (by omega)
      have HD := Lib.hid hsd
      clear hsd hneg
      go_wp2_with fail
      refine bodyPost_end (v := .tuple #[]) (by simp [results, Tryz.results93, go_sem]) rfl ?_
      exact ⟨rfl, P5, qf, HR.out.1, HR.out.2.2.2, HD.out, HR.out.2.2.1⟩
end
section
open Go.RowKit Go.Maps

/-- a key for hooks: the operation that writes slot d. -/
theorem hAt {P : Program} {ops : Array Oper} {Q : Exit → Act → World → Prop} {o : Oper} {r : List Oper} {a : Act} {w : World} (d : Nat) (_ho : o.dst = some d) (h : wpList P ops Q (o :: r) a w) : wpList P ops Q (o :: r) a w := h
/-- v holds the numbers Q, in a block of the call's own. -/
def QAt (Y : World) (base : Nat) (v : Value) (Q : List Nat) : Prop :=
  ∃ g o cap cur, v = .slice (some ⟨g, o, none⟩) Q.length cap ∧ base ≤ g ∧ Y.heap[g]? = some (.cells cur 3 (0, 0)) ∧ o + cap ≤ cur.size ∧ Q.length ≤ cap ∧ ∀ (j x : Nat), Q[j]? = some x → cur[o + j]? = some (.int .i64 x)
theorem QAt.other {Y : World} {base : Nat} {v : Value} {Q : List Nat} (h : QAt Y base v Q) {b : Nat} (hb : b < base) (j : Nat) (u : Value) : QAt (Y.setCell ⟨b, j, none⟩ u) base v Q := by
  obtain ⟨g, o, cap, cur, h1, h2, h3, h4⟩ := h
  exact ⟨g, o, cap, cur, h1, h2, (heap_setCell_other Y ⟨b, j, none⟩ g u (by show g ≠ b; omega)).trans h3, h4⟩
theorem QAt.drew {Y : World} {base : Nat} {v : Value} {Q : List Nat} (h : QAt Y base v Q) (n : Nat) : QAt (Y.drewN n) base v Q := h
theorem QAt.lit (X : World) (y : Nat) : QAt (X.alloc (.cells #[.int .i64 y] 3)) X.heap.size (.slice (some ⟨X.heap.size, 0, none⟩) 1 1) [y] := by
  refine ⟨X.heap.size, 0, 1, #[.int .i64 y], rfl, Nat.le_refl _, ?_, by simp, by simp, fun j x hj => ?_⟩
  · show (X.heap.push _)[X.heap.size]? = _
    simp
  · cases j with
    | zero =>
      simp at hj
      subst hj
      rfl
    | succ j => simp at hj
/-- 's[k:]' at the operation, written out. -/
theorem wpList_cut_at {P : Program} (w : World) {ops : Array Oper} {rest : List Oper} {o : Oper} {a : Act} {Q : Exit → Act → World → Prop} (hw : Region.wanted o (yielded ops a.tmps) = true) (x lo : Operand) (t : TypeId)
    (ho : o.op = .slice t x (some lo) none none) (e : TypeId) (ht : P.underlying t = some (.slice e)) (hel : P.elem t = e) (hsz : (sizeOf e).run P w = .ok 1 w) (A : Option Addr) (n c : Nat) (k : Nat) (hx : a.eval x = .slice A n c) (hlo : a.eval lo = .int .i64 k) (hk : k ≤ n)
    (h : wpList P ops Q rest (a.put o.dst (.slice (if c = k then A else A.map (fun a => a.add k)) (n - k) (c - k))) w) : wpList P ops Q (o :: rest) a w := by
  refine BigFrame.wpList_want hw fun K hK => ?_
  have hrun := run_slice_l (P := P) w t A n c (by rw [hel]; exact ht) .i64 (k : Int) (by omega) (by omega)
  rw [hel, hsz] at hrun
  simp only [Result.andThen, sliced, Int.toNat_natCast, Nat.mul_one] at hrun
  unfold Oper.wp execOp
  simp [ho, hx, hlo, run_sliceAt_slice, hel, ht, hrun, Result.andThen]
  exact hK _ _ h
/-- the first number goes. -/
theorem wpList_pop {P : Program} (w : World) {ops : Array Oper} {rest : List Oper} {o : Oper} {a : Act} {Q : Exit → Act → World → Prop} (hw : Region.wanted o (yielded ops a.tmps) = true) (x lo : Operand) (t e : TypeId)
    (ho : o.op = .slice t x (some lo) none none) (ht : P.underlying t = some (.slice e)) (hel : P.elem t = e) (hsz : (sizeOf e).run P w = .ok 1 w) (base : Nat) (v : Value) (y : Nat) (L : List Nat) (hx : a.eval x = v) (hlo : a.eval lo = .int .i64 1) (hq : QAt w base v (y :: L))
    (h : ∀ v', QAt w base v' L → wpList P ops Q rest (a.put o.dst v') w) : wpList P ops Q (o :: rest) a w := by
  obtain ⟨g, off, c, cur, rfl, hg, hh, hs, hl, hc⟩ := hq
  refine wpList_cut_at w hw x lo t ho e ht hel hsz (some ⟨g, off, none⟩) (y :: L).length c 1 hx hlo (by simp) (h _ ?_)
  simp only [List.length_cons] at hl
  by_cases e1 : c = 1
  · subst e1
    have e2 : L = [] := List.length_eq_zero_iff.1 (by omega)
    subst e2
    exact ⟨g, off, 0, cur, by simp, hg, hh, by omega, by simp, fun j x hj => by simp at hj⟩
  · refine ⟨g, off + 1, c - 1, cur, ?_, hg, hh, by omega, by omega, fun j x hj => ?_⟩
    · rw [if_neg (by omega)]
      simp [Addr.add_lit]
    · have := hc (j + 1) x (by simpa using hj)
      rw [show off + 1 + j = off + (j + 1) by omega]
      exact this
/-- one more number. -/
theorem wpList_push {P : Program} (w : World) {ops : Array Oper} {rest : List Oper} {o : Oper} {a : Act} {Q : Exit → Act → World → Prop} (hg : o.guard = none) (s x : Operand) (t : TypeId)
    (ho : o.op = .call { callee := .builtin .append, args := #[s, x], argTypes := #[t, t] }) (ht : P.underlying t = some (.slice 3)) (hinfo : (P.info? 3).map (fun i => (i.zero, i.size, i.bytes)) = some (some (.int .i64 0), 1, 8))
    (base : Nat) (v : Value) (L : List Nat) (hv : a.eval s = v) (hq : QAt w base v L) (hlen : L.length ≤ 65536) (hbase : base ≤ w.heap.size) (nb y : Nat) (hx : a.eval x = .slice (some ⟨nb, 0, none⟩) 1 1) (hy : w.cell? ⟨nb, 0, none⟩ = some (.int .i64 y))
    (h : ∀ v' w', QAt w' base v' (L ++ [y]) → Below base w w' → wpList P ops Q rest (a.put o.dst v') w') : wpList P ops Q (o :: rest) a w := by
  obtain ⟨i0, hi, hz1, hz2, hz3⟩ := info_parts hinfo
  obtain ⟨g, off, cap, cur, rfl, hbg, hh, hs, hl, hc⟩ := hq
  refine wpList_append_arg w hg s x t ho 3 i0 (.int .i64 0) 1 8 ht hi hz1 hz2 hz3 rfl (by decide) g off L.length cap (L.map (fun x : Nat => Value.int .i64 x)) hv (by simp) (fun j u hj => ?_) ⟨nb, 0, none⟩ 1 1 [.int .i64 y] hx rfl (fun j u hj => ?_) (fun u hu => ?_) (fun hr j hj => ?_) (by unfold maxLen; omega) (by omega) (fun hr => ?_) (fun hr v' w' hown hgr => ?_)
  · rw [List.getElem?_map] at hj
    cases hq : L[j]? with
    | none => rw [hq] at hj; simp at hj
    | some x =>
      rw [hq] at hj
      simp at hj
      rw [Lib.cell_of_heap hh, ← hj]
      exact hc j x hq
  · cases j with
    | zero =>
      simp at hj
      rw [← hj]
      exact hy
    | succ j => simp at hj
  · rw [List.mem_singleton.1 hu]
    rfl
  · have hj0 : j = 0 := by simpa using hj
    subst hj0
    refine ⟨?_, Lib.frozen_of_heap hh _⟩
    rw [Lib.cell_of_heap hh]
    have : off + L.length * 1 + 0 < cur.size := by omega
    simpa using this
  · refine h _ _ ⟨g, off, cap, cur.setIfInBounds (off + L.length) (.int .i64 y), ?_, hbg, ?_, ?_, ?_, fun j x hj => ?_⟩ ?_
    · simp
    · show ((w.setCells g (off + L.length * 1) [.int .i64 y])).heap[g]? = _
      rw [Nat.mul_one]
      exact heap_setCell_same w g (off + L.length) _ _ _ hh
    · simpa using hs
    · simpa using hr
    · by_cases e : j < L.length
      · rw [List.getElem?_append_left e] at hj
        rw [Array.getElem?_setIfInBounds_ne (by omega)]
        exact hc j x hj
      · rw [List.getElem?_append_right (by omega)] at hj
        have e2 : j = L.length := by
          cases hq : j - L.length with
          | zero => omega
          | succ k => rw [hq] at hj; simp at hj
        subst e2
        simp at hj
        subst hj
        rw [Array.getElem?_setIfInBounds_self_of_lt (by omega)]
    · show Below base w (w.setCells g (off + L.length * 1) [.int .i64 y])
      exact (Below.refl _ _).setCell (p := ⟨g, off + L.length * 1, none⟩) hbg _
  · obtain ⟨hl2, hor⟩ := hown
    rcases hor with ⟨_, h0⟩ | ⟨g', cap', cur', rfl, hb', hh', hle, _, hsz, htk⟩
    · omega
    · refine h _ _ ⟨g', 0, cap', cur', by simp, by omega, hh', by omega, by simpa using hle, fun j x hj => ?_⟩ ((Below.refl _ _).grown hgr hbase (fun k e => by cases e))
      have hjl : j < L.length + 1 := by
        have := (List.getElem?_eq_some_iff.1 hj).1
        simpa using this
      have h5 : (cur'.toList.take ((L.length + 1) * 1))[j]? = some (.int .i64 x) := by
        rw [htk]
        by_cases e : j < L.length
        · rw [List.getElem?_append_left (by simpa using e), List.getElem?_map]
          rw [List.getElem?_append_left e] at hj
          rw [hj]
          rfl
        · rw [List.getElem?_append_right (by simp; omega)]
          rw [List.getElem?_append_right (by omega)] at hj
          simp only [List.length_map]
          cases hq : j - L.length with
          | zero => rw [hq] at hj; simp at hj; subst hj; rfl
          | succ k => rw [hq] at hj; simp at hj
      rw [List.getElem?_take, if_pos (by omega)] at h5
      simpa using h5
end
end Go.Proofs.YtimijjhdgihobaaGreatDoor
