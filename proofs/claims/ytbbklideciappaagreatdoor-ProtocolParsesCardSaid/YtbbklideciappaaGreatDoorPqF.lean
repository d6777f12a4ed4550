/-
  protocol.Successors.
-/
import Derived.Test.YtbbklideciappaaGreatDoorPqAA
import Derived.Test.YtbbklideciappaaGreatDoorPqE
import Derived.Lib.OwnBridge
namespace Go.Proofs.YtbbklideciappaaGreatDoor
open Go.RowKit Go.Maps

theorem int_info : (Tryz.prog.info? 3).map (fun i => (i.zero, i.size, i.bytes)) = some (some (.int .i64 0), 1, 8) := by kernel_rfl
/-- what Successors returns. -/
def RetNx (p : Prot) (z : Int) (w : World) (e : Ending) (w' : World) : Prop := ∃ v L, e = .returned v ∧ NextAt p z L ∧ OwnI w' w.heap.size 3 v L ∧ L.length ≤ 1000000000 ∧ Below w.heap.size w w'
theorem grow_below (B : Nat) (w : World) (hB : B ≤ w.heap.size) (os : Array Obj) : Below B w (Go.Sort.grow w os) := Lib.below_grow B w hB 0 os
theorem own_nil_len {W : World} {B : Nat} {e : TypeId} {L : List Int} (h : OwnI W B e (.slice none 0 0) L) : L = [] := by
  have := own_n h
  exact List.eq_nil_of_length_eq_zero this.symm
theorem sort_any (L : List Int) (v : Value) (W : World) (B : Nat) (h : OwnI W B 3 v L) (hB : B ≤ W.heap.size) (hl : L.length ≤ 1000000000) :
    Calls Tryz.prog 33 #[v] W fun e w' => e = .returned (.tuple #[]) ∧ OwnI w' B 3 v (L.mergeSort fun x y => decide (x ≤ y)) ∧ Below B W w' := by
  by_cases hv : v = .slice none 0 0
  · subst hv
    have hL := own_nil_len h
    subst hL
    refine (Tryz.slices_Sort_int_none none 0 W).mono ?_
    rintro e w' ⟨rfl, rfl⟩
    exact ⟨rfl, by simpa using h, Below.refl _ _⟩
  · obtain ⟨g, cap, rfl, hbg, hlt, hn, hm, hl', hH⟩ := Lib.holds_of_ownsRow h hv
    refine (Tryz.slices_Sort_int g 0 cap L W hH hlt (by omega)).mono ?_
    rintro e w' ⟨rfl, n, os, rfl⟩
    have hsl : (L.mergeSort fun x y => decide (x ≤ y)).length = L.length := List.length_mergeSort _
    have h1 := Lib.ownsRow_putRow (q := n) (ys := L.mergeSort fun x y => decide (x ≤ y)) h hsl (Nat.le_refl _)
    rw [List.take_of_length_le (by omega)] at h1
    have h2 : OwnI (Go.Sort.putRow (Value.int .i64) (Go.Sort.ahead W n) g 0 (L.mergeSort fun x y => decide (x ≤ y)).toArray) B 3 (.slice (some ⟨g, 0, none⟩) L.length cap) (L.mergeSort fun x y => decide (x ≤ y)) := by
      unfold OwnI OwnV
      rw [hsl]
      exact h1
    have hb1 : Below B W (Go.Sort.putRow (Value.int .i64) (Go.Sort.ahead W n) g 0 (L.mergeSort fun x y => decide (x ≤ y)).toArray) := Lib.below_putRow (Below.refl _ _) hbg
    exact ⟨rfl, h2.kept_new (grow_below _ _ (Nat.le_refl _) os), hb1.trans (grow_below _ _ (Nat.le_trans hB hb1.size) os)⟩
theorem compact_any (L : List Int) (v : Value) (W : World) (B : Nat) (h : OwnI W B 3 v L) (hl : L.length ≤ 1000000000) :
    Calls Tryz.prog 34 #[v] W fun e w' => ∃ v', e = .returned v' ∧ OwnI w' B 3 v' (Lib.compact L) ∧ Below B W w' := by
  by_cases hv : v = .slice none 0 0
  · subst hv
    have hL := own_nil_len h
    subst hL
    refine (Tryz.slices_Compact_int_empty none 0 W).mono ?_
    rintro e w' ⟨rfl, rfl⟩
    exact ⟨_, rfl, h, Below.refl _ _⟩
  · obtain ⟨g, cap, rfl, hbg, hlt, hn, hm, hl', hH⟩ := Lib.holds_of_ownsRow h hv
    refine (Tryz.slices_Compact_int g 0 cap L W hH (by omega) hn).mono ?_
    rintro e w' ⟨rfl, q, rfl⟩
    have hcl := Lib.compact_length_le L
    have h1 := Lib.ownsRow_putRow (q := q) (k := (Lib.compact L).length) (ys := Lib.compact L ++ List.replicate (L.length - (Lib.compact L).length) 0) h (by simp; omega) hcl
    rw [List.take_left] at h1
    exact ⟨_, rfl, h1, Lib.below_putRow (Below.refl _ _) hbg⟩
/-- 'v = append(v, x)' of an integer at the operation, the new cell's block named. -/
theorem wpList_append_intN {P : Program} (w : World) {ops : Array Oper} {rest : List Oper} {o : Oper} {a : Act} {Q : Exit → Act → World → Prop} (hgd : o.guard = none) (s x : Operand) (t : TypeId)
    (ho : o.op = .call { callee := .builtin .append, args := #[s, x], argTypes := #[t, t] })
    (base : Nat) (e : TypeId) (ht : P.underlying t = some (.slice e)) (hinfo : (P.info? e).map (fun i => (i.zero, i.size, i.bytes)) = some (some (.int .i64 0), 1, 8))
    (v : Value) (zs : List Int) (w0 : World) (z : Int) (hw : w = w0.alloc (.cells #[.int .i64 z] e)) (hs : a.eval s = v) (hown : OwnI w0 base e v zs)
    (nb : Nat) (hx : a.eval x = .slice (some ⟨nb, 0, none⟩) 1 1) (hnb : nb = w0.heap.size) (hlen : zs.length + 1 ≤ 4398046511104) (hbase : base ≤ w0.heap.size)
    (h : ∀ v' w', OwnI w' base e v' (zs ++ [z]) → w0.grownBy w' v.ownBlock → wpList P ops Q rest (a.put o.dst v') w') :
    wpList P ops Q (o :: rest) a w := by
  subst hnb
  exact wpList_append_int w hgd s x t ho base e ht hinfo v zs w0 z hw hs hown hx hlen hbase h
theorem nexts_take {xs : List Ans} {k : Nat} {a : Ans} (ha : xs[k]? = some a) : nexts (xs.take (k + 1)) = nexts (xs.take k) ++ if 0 ≤ a.next then [a.next] else [] := by
  rw [take_snoc' ha, nexts_snoc]
theorem nexts_takelen (xs : List Ans) (k : Nat) : (nexts (xs.take k)).length ≤ xs.length := by
  have h1 := nexts_len (xs.take k)
  rw [List.length_take] at h1
  omega
set_option maxHeartbeats 4000000 in
theorem successors_out (w : World) (p : Prot) (z : Int) (hz : z < 0 ∨ p.qs.length ≤ z) :
    Calls Tryz.prog 16 #[.agg #[.string p.name, .int .i64 p.ver, .slice p.qA p.qs.length p.qc], .int .i64 z] w (RetNx p z w) := by
  have HB := Lib.hid (below_new w (.cells #[.string p.name, .int .i64 p.ver, .slice p.qA p.qs.length p.qc] 24))
  have HN := Lib.hid (show NextAt p z [] from .inl ⟨hz, rfl⟩)
  by_cases h0 : z < 0
  · have d0 : decide (z < 0) = true := decide_eq_true h0
    clear hz h0
    go_enter Tryz.func16, Tryz.ntmps16
    go_wp2_with fail
    go_ret
    exact ⟨_, [], rfl, HN.out, OwnV.nil _ _ _, by simp, HB.out⟩
  · have d0 : decide (z < 0) = false := decide_eq_false h0
    have d1 : decide ((p.qs.length : Int) ≤ z) = true := decide_eq_true (by omega)
    clear hz h0
    go_enter Tryz.func16, Tryz.ntmps16
    go_wp2_with fail
    go_ret
    exact ⟨_, [], rfl, HN.out, OwnV.nil _ _ _, by simp, HB.out⟩
set_option maxRecDepth 100000 in
set_option maxHeartbeats 8000000 in
theorem successors_in (w : World) (p : Prot) (h : ProtAt w w.heap.size p) (hc : CntLe p 1000000000) (i : Nat) (q : Ques) (hq : p.qs[i]? = some q) :
    Calls Tryz.prog 16 #[.agg #[.string p.name, .int .i64 p.ver, .slice p.qA p.qs.length p.qc], .int .i64 i] w (RetNx p i w) := by
  have HNX : Hid (∀ L, NextOf q.ans L → NextAt p i L) := Lib.hid (fun L hL => .inr ⟨q, by simpa using hq, by omega, hL⟩)
  obtain ⟨b, o, hA, hbb, q0, q1, hrec⟩ := ques_at h hq
  have hil : i < p.qs.length := (List.getElem?_eq_some_iff.1 hq).1
  obtain ⟨n, hn⟩ : ∃ n, n = p.qs.length := ⟨_, rfl⟩
  obtain ⟨m, hm⟩ : ∃ m, m = q.ans.length := ⟨_, rfl⟩
  have HM := Lib.hid hm
  have hm9 : m ≤ 1000000000 := by rw [hm]; exact hc.2 q (List.mem_of_getElem? hq)
  rw [← hn] at hil ⊢
  rw [← hm] at q1
  rw [hA]
  have d0 : decide ((i : Int) < 0) = false := decide_eq_false (by omega)
  have d1 : decide (n ≤ i) = false := decide_eq_false (by omega)
  have hil' : (i : Int) < (n : Int) := by omega
  have HB := Lib.hid (below_new w (.cells #[.string p.name, .int .i64 p.ver, .slice (some ⟨b, o, none⟩) n p.qc] 24))
  have hbn : ¬ b = w.heap.size := by omega
  have HREC := Lib.hid hrec
  clear h hc hq hA hm hn hrec
  go_enter Tryz.func16, Tryz.ntmps16
  go_wp2_with fail
  go_loopw [5, 24] (fun v j X => ∃ k : Nat, k ≤ m ∧ j = .int .i64 k ∧ OwnI X w.heap.size 3 v (nexts (q.ans.take k)) ∧ Below w.heap.size w X) (fun _ j _ => m - (intOf j).toNat)
  case atStart => exact ⟨0, by omega, rfl, OwnV.nil _ _ _, HB.out⟩
  case round =>
    obtain ⟨k, hk, rfl, hown, hb⟩ := hrel
    have HO := Lib.hid (And.intro hown hb)
    by_cases hlt : k < m
    · have hlt' : (k : Int) < (m : Int) := by omega
      obtain ⟨t, ht⟩ : ∃ t, q.ans[k]? = some t := ⟨q.ans[k]'(by have := HM.out; omega), by simp⟩
      obtain ⟨b2, o2, hA2, hbb2, r0, r1, r2, r3⟩ := ans_at (RecsAt.below HREC.out hb) ht
      rw [hA2]
      obtain ⟨g0, g1, g2, g3⟩ := fresh4 wr (.string t.text) (.int .i64 t.next) (.int .i64 t.urg) (.string t.code) 45
      have HB1 := Lib.hid (hb.alloc hb.size (.cells #[.string t.text, .int .i64 t.next, .int .i64 t.urg, .string t.code] 45))
      have HO1 := Lib.hid (hown.alloc (.cells #[.string t.text, .int .i64 t.next, .int .i64 t.urg, .string t.code] 45))
      obtain ⟨W2, hW2⟩ : ∃ W2, W2 = wr.alloc (.cells #[.string t.text, .int .i64 t.next, .int .i64 t.urg, .string t.code] 45) := ⟨_, rfl⟩
      rw [← hW2] at g0 g1 g2 g3 HB1 HO1
      have HT := Lib.hid (nexts_take ht)
      have hlq : (nexts (q.ans.take k)).length + 1 ≤ 4398046511104 := by have := nexts_takelen q.ans k; have := HM.out; omega
      have HLQ := Lib.hid hlq
      clear ht hown hA2 hb hlq
      by_cases hp : 0 ≤ t.next
      · have d2 : decide (0 ≤ t.next) = true := decide_eq_true hp
        have HE := Lib.hid (HT.out.trans (by rw [if_pos hp]))
        clear hp
        have hnb : wr.heap.size + 1 = W2.heap.size := by rw [hW2]; simp
        have HNB := Lib.hid hnb
        have HWW := Lib.hid hW2
        clear hW2 hnb
        go_wp2_with (at_builtin; refine wpList_append_intN _ rfl _ _ 34 rfl w.heap.size 3 Tryz.underlying34 int_info _ _ W2 t.next (by rw [HWW.out]) rfl HO1.out _ rfl HNB.out HLQ.out HB1.out.size ?_; intro v3 w3 hown3 hg; have HB3 := Lib.hid (HB1.out.grown hg HB1.out.size HO1.out.ge_base); have HO3 := Lib.hid hown3; clear hown3 hg)
        go_roundw
        case rel => exact ⟨k + 1, by omega, by go_num, by rw [HE.out]; exact HO3.out, HB3.out⟩
        case measure => simp [intOf]; omega
      · have d2 : decide (0 ≤ t.next) = false := decide_eq_false hp
        have HE := Lib.hid (HT.out.trans (by rw [if_neg hp, List.append_nil]))
        clear hp
        go_wp2_with fail
        rw [← hW2]
        clear hW2
        go_roundw
        case rel => exact ⟨k + 1, by omega, by go_num, by rw [HE.out]; exact HO1.out, HB1.out⟩
        case measure => simp [intOf]; omega
    · have hkk : k = m := by omega
      have hl9 : (nexts q.ans).length ≤ 1000000000 := by have := nexts_len q.ans; have := HM.out; omega
      have HO2 : Hid (OwnI wr w.heap.size 3 u5 (nexts q.ans)) := Lib.hid (by
        have h1 := HO.out.1
        rwa [hkk, HM.out, List.take_length] at h1)
      have HS := Lib.hid (sort_any (nexts q.ans) u5 wr w.heap.size HO2.out hb.size hl9)
      have hsl : ((nexts q.ans).mergeSort fun x y => decide (x ≤ y)).length ≤ 1000000000 := by rw [List.length_mergeSort]; exact hl9
      have HNO := Lib.hid (sort_next q.ans)
      obtain ⟨S, hS⟩ : ∃ S, S = (nexts q.ans).mergeSort fun x y => decide (x ≤ y) := ⟨_, rfl⟩
      rw [← hS] at HS hsl HNO
      have HCL := Lib.hid (Lib.compact_length_le S)
      have HSL := Lib.hid hsl
      subst hkk
      clear hown hb hS hl9 hsl
      go_wp2_with fail
      refine HS.out.mono ?_
      rintro e w3 ⟨rfl, hown3, hb3⟩
      have HC := Lib.hid (compact_any S u5 w3 w.heap.size hown3 HSL.out)
      have HB3 := Lib.hid (HO.out.2.trans hb3)
      clear hown3 hb3
      go_wp2_with fail
      refine HC.out.mono ?_
      rintro e w4 ⟨v', rfl, hown4, hb4⟩
      have HE := Lib.hid (And.intro hown4 (HB3.out.trans hb4))
      clear hown4 hb4
      go_wp2_with fail
      go_ret
      exact ⟨v', _, rfl, HNX.out _ HNO.out, HE.out.1, by have := HCL.out; have := HSL.out; omega, HE.out.2⟩
theorem successors_any (w : World) (p : Prot) (h : ProtAt w w.heap.size p) (hc : CntLe p 1000000000) (z : Int) :
    Calls Tryz.prog 16 #[.agg #[.string p.name, .int .i64 p.ver, .slice p.qA p.qs.length p.qc], .int .i64 z] w (RetNx p z w) := by
  by_cases hz : z < 0 ∨ p.qs.length ≤ z
  · exact successors_out w p z hz
  · obtain ⟨i, rfl⟩ := Int.eq_ofNat_of_zero_le (show 0 ≤ z by omega)
    obtain ⟨q, hq⟩ : ∃ q, p.qs[i]? = some q := ⟨p.qs[i]'(by omega), by simp⟩
    exact successors_in w p h hc i q hq
end Go.Proofs.YtbbklideciappaaGreatDoor
