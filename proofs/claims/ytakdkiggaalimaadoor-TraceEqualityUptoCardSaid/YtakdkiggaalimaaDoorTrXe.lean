/-
  samaritanref51: ints, SameAct (printed by gentrxe.py).
-/
import Derived.Test.YtakdkiggaalimaaDoorTrEq
import Derived.Test.YtakdkiggaalimaaDoorTrFt
import Derived.Deep.QuietTactic
import Derived.BigQuiet
namespace Go.Proofs.YtakdkiggaalimaaDoor
open Go.RowKit Go.Maps

set_option maxRecDepth 100000 in
set_option maxHeartbeats 4000000 in
theorem ints51_any (A C : Option Addr) (c d : Nat) (zs ys : List Int) (w : World) (B B' : Nat) (ha : Sl w B A (zs.map (Value.int .i64))) (hb : Sl w B' C (ys.map (Value.int .i64))) (na : zs.length ≤ 9223372036854775807) :
    Calls Tryd.prog 50 #[.slice A zs.length c, .slice C ys.length d] w (SameL zs ys w) := by
  by_cases hl : zs.length = ys.length
  · have hlb : ((zs.length : Int) == (ys.length : Int)) = true := by simp [hl]
    have hlb2 : ((zs.length : Int) != (ys.length : Int)) = false := by simp [hl]
    have HL := Lib.hid hl
    clear hl
    go_enter Tryd.func50, Tryd.ntmps50
    go_wp2_with fail
    go_loopw [5] (fun i wr => ∃ k : Nat, k ≤ zs.length ∧ i = .int .i64 k ∧ zs.take k = ys.take k ∧ ∃ n, wr = w.drewN n) (fun i _ => zs.length - (intOf i).toNat)
    case atStart => exact ⟨0, Nat.zero_le _, rfl, rfl, 0, rfl⟩
    case round =>
      obtain ⟨k, hk, rfl, htk, n, rfl⟩ := hrel
      have HTK := Lib.hid htk
      clear htk
      by_cases hlt : k < zs.length
      · have hlt2 : k < ys.length := by rw [← HL.out]; exact hlt
        obtain ⟨z, hz⟩ : ∃ z, zs[k]? = some z := ⟨zs[k], by simp⟩
        obtain ⟨y, hy⟩ : ∃ y, ys[k]? = some y := ⟨ys[k], by simp⟩
        have HZ := Lib.hid hz
        have HY := Lib.hid hy
        obtain ⟨b, o, rfl, hbb, hcell⟩ := ha.int hz
        obtain ⟨b2, o2, rfl, hbb2, hcell2⟩ := hb.int hy
        clear hz hy
        by_cases hzy : z = y
        · subst hzy
          have hb1 : (z != z) = false := by simp
          have HT2 : Hid (zs.take (k + 1) = ys.take (k + 1)) := by show _ = _; rw [take_snoc' HZ.out, take_snoc' HY.out, HTK.out]
          clear HZ HY
          go_wp2_with fail
          go_quiet (fail)
          go_wp2_with fail
          go_roundw
          case rel => exact ⟨k + 1, by omega, by go_num, HT2.out, _, rfl⟩
          case measure => simp [intOf]; omega
        · have hb1 : (z != y) = true := by simp [hzy]
          have hb2 : (z == y) = false := by simp [hzy]
          have HNE : Hid (¬ zs = ys) := by
            intro e
            have hz := HZ.out
            rw [e] at hz
            exact hzy (Option.some.inj (hz.symm.trans HY.out))
          clear HZ HY
          go_wp2_with fail
          go_quiet (fail)
          go_wp2_with fail
          go_ret
          exact ⟨ret_no HNE.out, n + nq, by rw [World.drewN_drewN]⟩
      · have hkk : k = zs.length := by omega
        subst hkk
        have HEQ : Hid (zs = ys) := eq_of_takes HL.out HTK.out
        go_wp2_with fail
        go_ret
        exact ⟨ret_yes HEQ.out, _, rfl⟩
  · have hlb : ((zs.length : Int) == (ys.length : Int)) = false := by simp; omega
    have hlb2 : ((zs.length : Int) != (ys.length : Int)) = true := by simp; omega
    have HNE : Hid (¬ zs = ys) := fun e => hl (by rw [e])
    clear hl
    go_enter Tryd.func50, Tryd.ntmps50
    go_wp2_with fail
    go_ret
    exact ⟨ret_no HNE.out, 0, rfl⟩
theorem quiet_add {P : Program} {f : FuncId} {args : Array Value} {W : World} {j n : Nat} {v : Value} (h : Calls P f args (W.drewN (j + n)) fun e w' => e = .returned v ∧ ∃ m, w' = (W.drewN (j + n)).drewN m) : Calls P f args (W.drewN (j + n)) fun e w'' => e = .returned v ∧ ∃ m, w'' = W.drewN (j + m) :=
  h.mono fun _ _ ⟨he, m, hm⟩ => ⟨he, n + m, by rw [hm, World.drewN_drewN, Nat.add_assoc]⟩
theorem srcs_len2 {a b : ActM} (h : a.con = b.con) : a.srcs.length = b.srcs.length := by
  have h1 := congrArg List.length ((actc_iff a b).1 h).2.2.2.2.2.2.1
  rwa [List.length_map, List.length_map] at h1
set_option maxRecDepth 100000 in
set_option maxHeartbeats 8000000 in
theorem sameAct_any (a b : ActM) (w : World) (BA BB : Nat) (ha : ActAt w BA a) (hb : ActAt w BB b) (hA : BA ≤ w.heap.size) (hB : BB ≤ w.heap.size) (ns : a.srcs.length ≤ 9223372036854775807) (nn : ∀ s ∈ a.srcs, s.nodes.length ≤ 9223372036854775807) (ng : a.groups.length ≤ 9223372036854775807) :
    Calls Tryd.prog 31 #[actV a, actV b] w fun e w' => e = .returned (.bool (tb (a.con = b.con))) ∧ Below w.heap.size w w' := by
  obtain ⟨C, hC⟩ : ∃ C, C = (actCs a).toArray := ⟨_, rfl⟩
  obtain ⟨D, hD⟩ : ∃ D, D = (actCs b).toArray := ⟨_, rfl⟩
  have hva : actV a = .agg C := by rw [hC]; rfl
  have hvb : actV b = .agg D := by rw [hD]; rfl
  obtain ⟨n, hn⟩ : ∃ n, n = a.srcs.length := ⟨_, rfl⟩
  obtain ⟨m, hm⟩ : ∃ m, m = b.srcs.length := ⟨_, rfl⟩
  have c0 : C[0]? = some (.int .i64 a.kind) := by rw [hC]; rfl
  have d0 : D[0]? = some (.int .i64 b.kind) := by rw [hD]; rfl
  have c1 : C[1]? = some (.int .i64 a.who) := by rw [hC]; rfl
  have d1 : D[1]? = some (.int .i64 b.who) := by rw [hD]; rfl
  have c2 : C[2]? = some (.int .i64 a.n) := by rw [hC]; rfl
  have d2 : D[2]? = some (.int .i64 b.n) := by rw [hD]; rfl
  have c3 : C[3]? = some (.int .i64 a.call) := by rw [hC]; rfl
  have d3 : D[3]? = some (.int .i64 b.call) := by rw [hD]; rfl
  have c4 : C[4]? = some (.int .i64 a.other) := by rw [hC]; rfl
  have d4 : D[4]? = some (.int .i64 b.other) := by rw [hD]; rfl
  have c5 : C[5]? = some (.int .i64 a.node) := by rw [hC]; rfl
  have d5 : D[5]? = some (.int .i64 b.node) := by rw [hD]; rfl
  have c6 : C[6]? = some (.slice a.sA n a.sc) := by rw [hC]; simp [actCs, hn]
  have d6 : D[6]? = some (.slice b.sA m b.sc) := by rw [hD]; simp [actCs, hm]
  have c7 : C[7]? = some (.slice a.gA a.groups.length a.gc) := by rw [hC]; rfl
  have d7 : D[7]? = some (.slice b.gA b.groups.length b.gc) := by rw [hD]; rfl
  rw [hva, hvb]
  have hb1 : Below w.heap.size w ((w.alloc (.cells C 39)).alloc (.cells D 39)) := ((Below.refl _ _).alloc (Nat.le_refl _) _).alloc (by simp) _
  have HB1 := Lib.hid hb1
  have HN := Lib.hid (And.intro hn hm)
  have hnl : n ≤ 9223372036854775807 := by omega
  obtain ⟨W1, hW1⟩ : ∃ W1, W1 = ((w.alloc (.cells C 39)).alloc (.cells D 39)) := ⟨_, rfl⟩
  have HGR := Lib.hid (ints51_any a.gA b.gA a.gc b.gc a.groups b.groups W1 BA BB (Sl.below ha.groups (by rw [hW1]; exact hb1.mono hA)) (Sl.below hb.groups (by rw [hW1]; exact hb1.mono hB)) ng)
  have HAB := Lib.hid (And.intro ha (And.intro hb (And.intro hA (And.intro hB nn))))
  have HP6 : Hid (W1.cell? ⟨w.heap.size, 6, none⟩ = some (.slice a.sA n a.sc) ∧ W1.cell? ⟨w.heap.size + 1, 6, none⟩ = some (.slice b.sA m b.sc)) := Lib.hid (by
    obtain ⟨h1, h2, _, _⟩ := two_boxes w (actCs a) (actCs b) 39 39 W1 (by rw [hW1, hC, hD])
    exact ⟨by rw [hn]; exact h1 6 _ rfl, by rw [hm]; exact h2 6 _ rfl⟩)
  have HS := Lib.hid (And.intro (ha.srcs.below (show Below BA w W1 by rw [hW1]; exact hb1.mono hA)) (And.intro (hb.srcs.below (show Below BB w W1 by rw [hW1]; exact hb1.mono hB)) trivial))
  have HW := Lib.hid (show w.heap.size ≤ W1.heap.size by rw [hW1]; exact hb1.size)
  clear hC hD hva hvb ha hb hA hB ns nn ng hn hm
  go_enter Tryd.func31, Tryd.ntmps31
  go_wp2_with (refine wpList_cmpN rfl rfl (by with_reducible rfl) (fun e hne => ?_) (fun e heq => ?_); (focus (rw [e]; refine wpList_jump (.bool true) (by kernel_rfl) ?_; simp only [setAll, Act.put, List.setIfInBounds_toArray, List.set_cons_zero, List.set_cons_succ]; go_wp2_with fail; go_ret; exact ⟨ret_no (fun q => by have h := (actc_iff a b).1 q; first | exact hne h.1 | exact hne h.2.1 | exact hne h.2.2.1 | exact hne h.2.2.2.1 | exact hne h.2.2.2.2.1 | exact hne h.2.2.2.2.2.1), HB1.out⟩)); rw [e]; have _ := Lib.hid heq; clear e heq)
  rw [← hW1]
  refine HGR.out.mono ?_
  rintro e V ⟨rfl, nv, rfl⟩
  by_cases hgr : a.groups = b.groups
  rotate_left
  · rw [tb_false hgr]
    have HB9 := Lib.hid (show Below w.heap.size w (W1.drewN nv) from below_dr (hW1 ▸ HB1.out) nv)
    clear hW1 hb1
    go_wp2_with fail
    go_ret
    exact ⟨ret_no (fun q => hgr ((actc_iff a b).1 q).2.2.2.2.2.2.2), HB9.out⟩
  rw [tb_true hgr]
  have HG := Lib.hid hgr
  have HB9 : Hid (∀ k, Below w.heap.size w (W1.drewN k)) := Lib.hid (fun k => below_dr (hW1 ▸ HB1.out) k)
  have p6 := HP6.out.1
  have q6 := HP6.out.2
  clear hgr hW1 hb1 c0 c1 c2 c3 c4 c5 c6 c7 d0 d1 d2 d3 d4 d5 d6 d7 HGR
  by_cases hnm : n = m
  rotate_left
  · have e : ((n : Int) != (m : Int)) = true := by simp; omega
    have HNM := Lib.hid hnm
    clear hnm
    go_wp2_with fail
    go_ret
    exact ⟨ret_no (fun q => HNM.out (by have h := srcs_len2 q; have := HN.out; omega)), HB9.out nv⟩
  subst hnm
  have e : ((n : Int) != (n : Int)) = false := by simp
  have HSD : Hid (a.srcs.map SrcM.con = b.srcs.map SrcM.con ↔ a.con = b.con) := Lib.hid (by
    rw [actc_iff]
    exact ⟨fun h => ⟨(by assumption : Hid _).out, (by assumption : Hid _).out, (by assumption : Hid _).out, (by assumption : Hid _).out, (by assumption : Hid _).out, (by assumption : Hid _).out, h, HG.out⟩, fun h => h.2.2.2.2.2.2.1⟩)
  go_wp2_with fail
  clear e
  go_loopw [5] (fun iv X => ∃ (k j : Nat), k ≤ n ∧ iv = .int .i64 k ∧ (a.srcs.map SrcM.con).take k = (b.srcs.map SrcM.con).take k ∧ X = W1.drewN j) (fun iv _ => n - (intOf iv).toNat)
  case atStart => exact ⟨0, nv, Nat.zero_le _, rfl, rfl, rfl⟩
  case round =>
    obtain ⟨k, j, hk, rfl, htk, rfl⟩ := hrel
    have HTK := Lib.hid htk
    clear htk
    by_cases hlt : k < n
    · have hlt' : (k : Int) < (n : Int) := by omega
      obtain ⟨x, hx⟩ : ∃ x, a.srcs[k]? = some x := ⟨a.srcs[k]'(by have := HN.out.1; omega), by simp⟩
      obtain ⟨y, hy⟩ : ∃ y, b.srcs[k]? = some y := ⟨b.srcs[k]'(by have := HN.out.2; omega), by simp⟩
      have HXY := Lib.hid (And.intro hx hy)
      obtain ⟨ab, ao, hA1, hab, x0, x1⟩ := src_at HS.out.1.row hx
      obtain ⟨bb, bo, hA2, hbb, y0, y1⟩ := src_at HS.out.2.1.row hy
      have HIN := Lib.hid (fun X hX hY => ints51_any x.nA y.nA x.nc y.nc x.nodes y.nodes X BA BB hX hY (HAB.out.2.2.2.2 x (List.mem_of_getElem? hx)))
      have HND := Lib.hid (And.intro (HS.out.1.nodes x (List.mem_of_getElem? hx)) (HS.out.2.1.nodes y (List.mem_of_getElem? hy)))
      rw [hA1] at p6
      rw [hA2] at q6
      have HSN : Hid ((a.srcs.map SrcM.con).take (k + 1) = (b.srcs.map SrcM.con).take (k + 1) ↔ x.con = y.con) := Lib.hid (by
        rw [take_snoc (show (a.srcs.map SrcM.con)[k]? = some x.con by rw [List.getElem?_map, HXY.out.1]; rfl), take_snoc (show (b.srcs.map SrcM.con)[k]? = some y.con by rw [List.getElem?_map, HXY.out.2]; rfl), HTK.out]
        simp)
      have HNEQ : Hid (x.con ≠ y.con → ¬ a.con = b.con) := Lib.hid (fun h q => h (HSN.out.1 (by rw [HSD.out.2 q])))
      have hlab : ab < W1.heap.size := Nat.lt_of_lt_of_le hab (Nat.le_trans HAB.out.2.2.1 HW.out)
      have hlbb : bb < W1.heap.size := Nat.lt_of_lt_of_le hbb (Nat.le_trans HAB.out.2.2.2.1 HW.out)
      clear hx hy hab hbb
      by_cases hkk : x.kind = y.kind
      · have e1 : (x.kind != y.kind) = false := by simp [hkk]
        have HKK := Lib.hid hkk
        clear hkk
        by_cases hnn : x.nodes = y.nodes
        · have e2 : tb (x.nodes = y.nodes) = true := tb_true hnn
          have HE : Hid (x.con = y.con) := Lib.hid (by show SrcC.mk _ _ = SrcC.mk _ _; rw [HKK.out, hnn])
          clear hnn
          go_wp2_with fail
          go_quiet ((go_at_call 50; refine quiet_add ((HIN.out _ (Sl.drewN HND.out.1 _) (Sl.drewN HND.out.2 _)).mono fun _ _ q => ⟨q.1, q.2⟩)))
          go_wp2_with fail
          go_roundw
          case rel => exact ⟨k + 1, _, by omega, by go_num, HSN.out.2 HE.out, rfl⟩
          case measure => simp [intOf]; omega
        · have e2 : tb (x.nodes = y.nodes) = false := tb_false hnn
          have HE : Hid (¬ a.con = b.con) := Lib.hid (HNEQ.out (fun q => hnn (congrArg SrcC.nodes q)))
          clear hnn
          go_wp2_with fail
          go_quiet ((go_at_call 50; refine quiet_add ((HIN.out _ (Sl.drewN HND.out.1 _) (Sl.drewN HND.out.2 _)).mono fun _ _ q => ⟨q.1, q.2⟩)))
          go_wp2_with fail
          go_ret
          exact ⟨ret_no HE.out, by rw [World.drewN_drewN]; exact HB9.out _⟩
      · have e1 : (x.kind != y.kind) = true := by simp [hkk]
        have HE : Hid (¬ a.con = b.con) := Lib.hid (HNEQ.out (fun q => hkk (congrArg SrcC.kind q)))
        clear hkk
        go_wp2_with fail
        go_quiet (fail)
        go_wp2_with fail
        go_ret
        exact ⟨ret_no HE.out, by rw [World.drewN_drewN]; exact HB9.out _⟩
    · obtain rfl : k = n := by omega
      have HE : Hid (a.con = b.con) := Lib.hid (HSD.out.1 (by
        have h := HTK.out
        rwa [List.take_of_length_le (by rw [List.length_map]; have := HN.out.1; omega), List.take_of_length_le (by rw [List.length_map]; have := HN.out.2; omega)] at h))
      go_wp2_with fail
      go_ret
      exact ⟨ret_yes HE.out, HB9.out _⟩
end Go.Proofs.YtakdkiggaalimaaDoor
