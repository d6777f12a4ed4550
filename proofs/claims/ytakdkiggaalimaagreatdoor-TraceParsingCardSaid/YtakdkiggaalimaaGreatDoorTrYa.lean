/-
  samaritanref51: ints, SameAct (printed by gentrxe.py).
  samaritanref51: OnlyAct (printed by gentrxf.py).
  How a slice of events comes in, as far as its own row: the cells of each event (what their slices hold is left open).
  How actions and events come in, with all that their slices hold (printed by gentroa.py).
  samaritanref51: list.
  samaritanref51: RightAct (printed by gentrxi.py).
  samaritanref51: Act, the kinds 2, 3, 4, 5, 6, 7, 8, 9 (printed by gentrxj.py).
  samaritanref51: Act, the kinds 10, 11, 12, 13, 14, 15, 16, 17, 18, 19 (printed by gentrxj.py).
  samaritanref51: Act (printed by gentrxl.py).
-/
import Derived.Test.YtakdkiggaalimaaGreatDoorTrEq
import Derived.Test.YtakdkiggaalimaaGreatDoorTrFt
import Derived.Deep.QuietTactic
import Derived.BigQuiet
import Derived.Test.YtakdkiggaalimaaGreatDoorTrVe
import Derived.Test.YtakdkiggaalimaaGreatDoorTrO
import Derived.RegionTactic
import Derived.ChangeAlike
import Derived.BigRegion
import Derived.Test.YtakdkiggaalimaaGreatDoorTrM
import Derived.Test.YtakdkiggaalimaaGreatDoorProg
import Derived.Test.YtakdkiggaalimaaGreatDoorLift
import Derived.Test.YtakdkiggaalimaaGreatDoorRows
import Derived.Test.YtakdkiggaalimaaGreatDoorTrVa
import Derived.Test.YtakdkiggaalimaaGreatDoorTrXa
import Derived.Test.YtakdkiggaalimaaGreatDoorTrXd
import Derived.OrdersHeld
import Derived.Deep.RegionHeld3
import Derived.Deep.MidRow
import Derived.Test.YtakdkiggaalimaaGreatDoorTrFm
namespace Go.Proofs.YtakdkiggaalimaaGreatDoor
section
open Go.RowKit Go.Maps

set_option maxRecDepth 100000 in
set_option maxHeartbeats 4000000 in
theorem ints51_any (A C : Option Addr) (c d : Nat) (zs ys : List Int) (w : World) (B B' : Nat) (ha : Sl w B A (zs.map (Value.int .i64))) (hb : Sl w B' C (ys.map (Value.int .i64))) (na : zs.length ≤ 9223372036854775807) :
    Calls Tryz.prog 50 #[.slice A zs.length c, .slice C ys.length d] w (SameL zs ys w) := by
  by_cases hl : zs.length = ys.length
  · have hlb : ((zs.length : Int) == (ys.length : Int)) = true := by simp [hl]
    have hlb2 : ((zs.length : Int) != (ys.length : Int)) = false := by simp [hl]
    have HL := Lib.hid hl
    clear hl
    go_enter Tryz.func50, Tryz.ntmps50
    go_wp2_with fail
    go_loopw [5] (fun i wr => ∃ k : Nat, k ≤ zs.length ∧ i = .int .i64 k ∧ zs.take k = ys.take k ∧ ∃ n, wr = w.drewN n) (fun i _ => zs.length - (intOf i).toNat)
    case atStart => exact ⟨0, Nat.zero_le _, rfl, rfl, 0, rfl⟩
    case round =>
      obtain ⟨k, hk, rfl, htk, n, rfl⟩ := hrel
      have HTK := Lib.hid htk
      clear htk
      by_cases hlt : k < zs.length
      · have hlt2 : k < ys.length := by rw [← HL.out]; exact hlt
        obtain ⟨z, hz⟩ : ∃ z, zs[k]? = some z := ⟨zs[k], by simp⟩
        obtain ⟨y, hy⟩ : ∃ y, ys[k]? = some y := ⟨ys[k], by simp⟩
        have HZ := Lib.hid hz
        have HY := Lib.hid hy
        obtain ⟨b, o, rfl, hbb, hcell⟩ := ha.int hz
        obtain ⟨b2, o2, rfl, hbb2, hcell2⟩ := hb.int hy
        clear hz hy
        by_cases hzy : z = y
        · subst hzy
          have hb1 : (z != z) = false := by simp
          have HT2 : Hid (zs.take (k + 1) = ys.take (k + 1)) := by show _ = _; rw [take_snoc' HZ.out, take_snoc' HY.out, HTK.out]
          clear HZ HY
          go_wp2_with fail
          go_quiet (fail)
          go_wp2_with fail
          go_roundw
          case rel => exact ⟨k + 1, by omega, by go_num, HT2.out, _, rfl⟩
          case measure => simp [intOf]; omega
        · have hb1 : (z != y) = true := by simp [hzy]
          have hb2 : (z == y) = false := by simp [hzy]
          have HNE : Hid (¬ zs = ys) := by
            intro e
            have hz := HZ.out
            rw [e] at hz
            exact hzy (Option.some.inj (hz.symm.trans HY.out))
          clear HZ HY
          go_wp2_with fail
          go_quiet (fail)
          go_wp2_with fail
          go_ret
          exact ⟨ret_no HNE.out, n + nq, by rw [World.drewN_drewN]⟩
      · have hkk : k = zs.length := by omega
        subst hkk
        have HEQ : Hid (zs = ys) := eq_of_takes HL.out HTK.out
        go_wp2_with fail
        go_ret
        exact ⟨ret_yes HEQ.out, _, rfl⟩
  · have hlb : ((zs.length : Int) == (ys.length : Int)) = false := by simp; omega
    have hlb2 : ((zs.length : Int) != (ys.length : Int)) = true := by simp; omega
    have HNE : Hid (¬ zs = ys) := fun e => hl (by rw [e])
    clear hl
    go_enter Tryz.func50, Tryz.ntmps50
    go_wp2_with fail
    go_ret
    exact ⟨ret_no HNE.out, 0, rfl⟩
theorem quiet_add {P : Program} {f : FuncId} {args : Array Value} {W : World} {j n : Nat} {v : Value} (h : Calls P f args (W.drewN (j + n)) fun e w' => e = .returned v ∧ ∃ m, w' = (W.drewN (j + n)).drewN m) : Calls P f args (W.drewN (j + n)) fun e w'' => e = .returned v ∧ ∃ m, w'' = W.drewN (j + m) :=
  h.mono fun _ _ ⟨he, m, hm⟩ => ⟨he, n + m, by rw [hm, World.drewN_drewN, Nat.add_assoc]⟩
theorem srcs_len2 {a b : ActM} (h : a.con = b.con) : a.srcs.length = b.srcs.length := by
  have h1 := congrArg List.length ((actc_iff a b).1 h).2.2.2.2.2.2.1
  rwa [List.length_map, List.length_map] at h1
set_option maxRecDepth 100000 in
set_option maxHeartbeats 8000000 in
theorem sameAct_any (a b : ActM) (w : World) (BA BB : Nat) (ha : ActAt w BA a) (hb : ActAt w BB b) (hA : BA ≤ w.heap.size) (hB : BB ≤ w.heap.size) (ns : a.srcs.length ≤ 9223372036854775807) (nn : ∀ s ∈ a.srcs, s.nodes.length ≤ 9223372036854775807) (ng : a.groups.length ≤ 9223372036854775807) :
    Calls Tryz.prog 20 #[actV a, actV b] w fun e w' => e = .returned (.bool (tb (a.con = b.con))) ∧ Below w.heap.size w w' := by
  obtain ⟨C, hC⟩ : ∃ C, C = (actCs a).toArray := ⟨_, rfl⟩
  obtain ⟨D, hD⟩ : ∃ D, D = (actCs b).toArray := ⟨_, rfl⟩
  have hva : actV a = .agg C := by rw [hC]; rfl
  have hvb : actV b = .agg D := by rw [hD]; rfl
  obtain ⟨n, hn⟩ : ∃ n, n = a.srcs.length := ⟨_, rfl⟩
  obtain ⟨m, hm⟩ : ∃ m, m = b.srcs.length := ⟨_, rfl⟩
  have c0 : C[0]? = some (.int .i64 a.kind) := by rw [hC]; rfl
  have d0 : D[0]? = some (.int .i64 b.kind) := by rw [hD]; rfl
  have c1 : C[1]? = some (.int .i64 a.who) := by rw [hC]; rfl
  have d1 : D[1]? = some (.int .i64 b.who) := by rw [hD]; rfl
  have c2 : C[2]? = some (.int .i64 a.n) := by rw [hC]; rfl
  have d2 : D[2]? = some (.int .i64 b.n) := by rw [hD]; rfl
  have c3 : C[3]? = some (.int .i64 a.call) := by rw [hC]; rfl
  have d3 : D[3]? = some (.int .i64 b.call) := by rw [hD]; rfl
  have c4 : C[4]? = some (.int .i64 a.other) := by rw [hC]; rfl
  have d4 : D[4]? = some (.int .i64 b.other) := by rw [hD]; rfl
  have c5 : C[5]? = some (.int .i64 a.node) := by rw [hC]; rfl
  have d5 : D[5]? = some (.int .i64 b.node) := by rw [hD]; rfl
  have c6 : C[6]? = some (.slice a.sA n a.sc) := by rw [hC]; simp [actCs, hn]
  have d6 : D[6]? = some (.slice b.sA m b.sc) := by rw [hD]; simp [actCs, hm]
  have c7 : C[7]? = some (.slice a.gA a.groups.length a.gc) := by rw [hC]; rfl
  have d7 : D[7]? = some (.slice b.gA b.groups.length b.gc) := by rw [hD]; rfl
  rw [hva, hvb]
  have hb1 : Below w.heap.size w ((w.alloc (.cells C 33)).alloc (.cells D 33)) := ((Below.refl _ _).alloc (Nat.le_refl _) _).alloc (by simp) _
  have HB1 := Lib.hid hb1
  have HN := Lib.hid (And.intro hn hm)
  have hnl : n ≤ 9223372036854775807 := by omega
  obtain ⟨W1, hW1⟩ : ∃ W1, W1 = ((w.alloc (.cells C 33)).alloc (.cells D 33)) := ⟨_, rfl⟩
  have HGR := Lib.hid (ints51_any a.gA b.gA a.gc b.gc a.groups b.groups W1 BA BB (Sl.below ha.groups (by rw [hW1]; exact hb1.mono hA)) (Sl.below hb.groups (by rw [hW1]; exact hb1.mono hB)) ng)
  have HAB := Lib.hid (And.intro ha (And.intro hb (And.intro hA (And.intro hB nn))))
  have HP6 : Hid (W1.cell? ⟨w.heap.size, 6, none⟩ = some (.slice a.sA n a.sc) ∧ W1.cell? ⟨w.heap.size + 1, 6, none⟩ = some (.slice b.sA m b.sc)) := Lib.hid (by
    obtain ⟨h1, h2, _, _⟩ := two_boxes w (actCs a) (actCs b) 33 33 W1 (by rw [hW1, hC, hD])
    exact ⟨by rw [hn]; exact h1 6 _ rfl, by rw [hm]; exact h2 6 _ rfl⟩)
  have HS := Lib.hid (And.intro (ha.srcs.below (show Below BA w W1 by rw [hW1]; exact hb1.mono hA)) (And.intro (hb.srcs.below (show Below BB w W1 by rw [hW1]; exact hb1.mono hB)) trivial))
  have HW := Lib.hid (show w.heap.size ≤ W1.heap.size by rw [hW1]; exact hb1.size)
  clear hC hD hva hvb ha hb hA hB ns nn ng hn hm
  go_enter Tryz.func20, Tryz.ntmps20
  go_wp2_with (refine wpList_cmpN rfl rfl (by with_reducible rfl) (fun e hne => ?_) (fun e heq => ?_); (focus (rw [e]; refine wpList_jump (.bool true) (by kernel_rfl) ?_; simp only [setAll, Act.put, List.setIfInBounds_toArray, List.set_cons_zero, List.set_cons_succ]; go_wp2_with fail; go_ret; exact ⟨ret_no (fun q => by have h := (actc_iff a b).1 q; first | exact hne h.1 | exact hne h.2.1 | exact hne h.2.2.1 | exact hne h.2.2.2.1 | exact hne h.2.2.2.2.1 | exact hne h.2.2.2.2.2.1), HB1.out⟩)); rw [e]; have _ := Lib.hid heq; clear e heq)
  rw [← hW1]
  refine HGR.out.mono ?_
  rintro e V ⟨rfl, nv, rfl⟩
  by_cases hgr : a.groups = b.groups
  rotate_left
  · rw [tb_false hgr]
    have HB9 := Lib.hid (show Below w.heap.size w (W1.drewN nv) from below_dr (hW1 ▸ HB1.out) nv)
    clear hW1 hb1
    go_wp2_with fail
    go_ret
    exact ⟨ret_no (fun q => hgr ((actc_iff a b).1 q).2.2.2.2.2.2.2), HB9.out⟩
  rw [tb_true hgr]
  have HG := Lib.hid hgr
  have HB9 : Hid (∀ k, Below w.heap.size w (W1.drewN k)) := Lib.hid (fun k => below_dr (hW1 ▸ HB1.out) k)
  have p6 := HP6.out.1
  have q6 := HP6.out.2
  clear hgr hW1 hb1 c0 c1 c2 c3 c4 c5 c6 c7 d0 d1 d2 d3 d4 d5 d6 d7 HGR
  by_cases hnm : n = m
  rotate_left
  · have e : ((n : Int) != (m : Int)) = true := by simp; omega
    have HNM := Lib.hid hnm
    clear hnm
    go_wp2_with fail
    go_ret
    exact ⟨ret_no (fun q => HNM.out (by have h := srcs_len2 q; have := HN.out; omega)), HB9.out nv⟩
  subst hnm
  have e : ((n : Int) != (n : Int)) = false := by simp
  have HSD : Hid (a.srcs.map SrcM.con = b.srcs.map SrcM.con ↔ a.con = b.con) := Lib.hid (by
    rw [actc_iff]
    exact ⟨fun h => ⟨(by assumption : Hid _).out, (by assumption : Hid _).out, (by assumption : Hid _).out, (by assumption : Hid _).out, (by assumption : Hid _).out, (by assumption : Hid _).out, h, HG.out⟩, fun h => h.2.2.2.2.2.2.1⟩)
  go_wp2_with fail
  clear e
  go_loopw [5] (fun iv X => ∃ (k j : Nat), k ≤ n ∧ iv = .int .i64 k ∧ (a.srcs.map SrcM.con).take k = (b.srcs.map SrcM.con).take k ∧ X = W1.drewN j) (fun iv _ => n - (intOf iv).toNat)
  case atStart => exact ⟨0, nv, Nat.zero_le _, rfl, rfl, rfl⟩
  case round =>
    obtain ⟨k, j, hk, rfl, htk, rfl⟩ := hrel
    have HTK := Lib.hid htk
    clear htk
    by_cases hlt : k < n
    · have hlt' : (k : Int) < (n : Int) := by omega
      obtain ⟨x, hx⟩ : ∃ x, a.srcs[k]? = some x := ⟨a.srcs[k]'(by have := HN.out.1; omega), by simp⟩
      obtain ⟨y, hy⟩ : ∃ y, b.srcs[k]? = some y := ⟨b.srcs[k]'(by have := HN.out.2; omega), by simp⟩
      have HXY := Lib.hid (And.intro hx hy)
      obtain ⟨ab, ao, hA1, hab, x0, x1⟩ := src_at HS.out.1.row hx
      obtain ⟨bb, bo, hA2, hbb, y0, y1⟩ := src_at HS.out.2.1.row hy
      have HIN := Lib.hid (fun X hX hY => ints51_any x.nA y.nA x.nc y.nc x.nodes y.nodes X BA BB hX hY (HAB.out.2.2.2.2 x (List.mem_of_getElem? hx)))
      have HND := Lib.hid (And.intro (HS.out.1.nodes x (List.mem_of_getElem? hx)) (HS.out.2.1.nodes y (List.mem_of_getElem? hy)))
      rw [hA1] at p6
      rw [hA2] at q6
      have HSN : Hid ((a.srcs.map SrcM.con).take (k + 1) = (b.srcs.map SrcM.con).take (k + 1) ↔ x.con = y.con) := Lib.hid (by
        rw [take_snoc (show (a.srcs.map SrcM.con)[k]? = some x.con by rw [List.getElem?_map, HXY.out.1]; rfl), take_snoc (show (b.srcs.map SrcM.con)[k]? = some y.con by rw [List.getElem?_map, HXY.out.2]; rfl), HTK.out]
        simp)
      have HNEQ : Hid (x.con ≠ y.con → ¬ a.con = b.con) := Lib.hid (fun h q => h (HSN.out.1 (by rw [HSD.out.2 q])))
      have hlab : ab < W1.heap.size := Nat.lt_of_lt_of_le hab (Nat.le_trans HAB.out.2.2.1 HW.out)
      have hlbb : bb < W1.heap.size := Nat.lt_of_lt_of_le hbb (Nat.le_trans HAB.out.2.2.2.1 HW.out)
      clear hx hy hab hbb
      by_cases hkk : x.kind = y.kind
      · have e1 : (x.kind != y.kind) = false := by simp [hkk]
        have HKK := Lib.hid hkk
        clear hkk
        by_cases hnn : x.nodes = y.nodes
        · have e2 : tb (x.nodes = y.nodes) = true := tb_true hnn
          have HE : Hid (x.con = y.con) := Lib.hid (by show SrcC.mk _ _ = SrcC.mk _ _; rw [HKK.out, hnn])
          clear hnn
          go_wp2_with fail
          go_quiet ((go_at_call 50; refine quiet_add ((HIN.out _ (Sl.drewN HND.out.1 _) (Sl.drewN HND.out.2 _)).mono fun _ _ q => ⟨q.1, q.2⟩)))
          go_wp2_with fail
          go_roundw
          case rel => exact ⟨k + 1, _, by omega, by go_num, HSN.out.2 HE.out, rfl⟩
          case measure => simp [intOf]; omega
        · have e2 : tb (x.nodes = y.nodes) = false := tb_false hnn
          have HE : Hid (¬ a.con = b.con) := Lib.hid (HNEQ.out (fun q => hnn (congrArg SrcC.nodes q)))
          clear hnn
          go_wp2_with fail
          go_quiet ((go_at_call 50; refine quiet_add ((HIN.out _ (Sl.drewN HND.out.1 _) (Sl.drewN HND.out.2 _)).mono fun _ _ q => ⟨q.1, q.2⟩)))
          go_wp2_with fail
          go_ret
          exact ⟨ret_no HE.out, by rw [World.drewN_drewN]; exact HB9.out _⟩
      · have e1 : (x.kind != y.kind) = true := by simp [hkk]
        have HE : Hid (¬ a.con = b.con) := Lib.hid (HNEQ.out (fun q => hkk (congrArg SrcC.kind q)))
        clear hkk
        go_wp2_with fail
        go_quiet (fail)
        go_wp2_with fail
        go_ret
        exact ⟨ret_no HE.out, by rw [World.drewN_drewN]; exact HB9.out _⟩
    · obtain rfl : k = n := by omega
      have HE : Hid (a.con = b.con) := Lib.hid (HSD.out.1 (by
        have h := HTK.out
        rwa [List.take_of_length_le (by rw [List.length_map]; have := HN.out.1; omega), List.take_of_length_le (by rw [List.length_map]; have := HN.out.2; omega)] at h))
      go_wp2_with fail
      go_ret
      exact ⟨ret_yes HE.out, HB9.out _⟩
end
section
open Go.RowKit Go.Maps

theorem below3 (w : World) (a b c : Obj) : Below w.heap.size w (((w.alloc a).alloc b).alloc c) := (((Below.refl _ _).alloc (Nat.le_refl _) _).alloc (by simp) _).alloc (by simp; omega) _
theorem below3d (w : World) (a b c : Obj) : Below w.heap.size w (((w.alloc a).alloc b).alloc c).drew := ⟨(below3 w a b c).os, (below3 w a b c).tape, (below3 w a b c).output, (below3 w a b c).size, (below3 w a b c).block⟩
/-- what OnlyAct returns. -/
def RetOA (a : ActM) (B : Nat) (w : World) (e : Ending) (w' : World) : Prop := ∃ a' : ActM, e = .returned (actV a') ∧ a'.con = onlyA a.con ∧ ActAt w' B a' ∧ ActL a' ∧ Below w.heap.size w w'
set_option maxRecDepth 100000 in
set_option maxHeartbeats 2000000 in
theorem onlyAct_1 (a : ActM) (w : World) (B : Nat) (hat : ActAt w B a) (hB : B ≤ w.heap.size) (hl : ActL a) (hk : a.kind = 1) : Calls Tryz.prog 74 #[actV a] w (RetOA a B w) := by
  obtain ⟨C, hC⟩ : ∃ C, C = (actCs a).toArray := ⟨_, rfl⟩
  have hv : actV a = .agg C := by rw [hC]; rfl
  have c0 : C[0]? = some (.int .i64 1) := by rw [hC, ← hk]; rfl
  have c5 : C[5]? = some (.int .i64 a.node) := by rw [hC]; rfl
  have c6 : C[6]? = some (.slice a.sA a.srcs.length a.sc) := by rw [hC]; rfl
  have HA := Lib.hid (And.intro hat (And.intro hl (And.intro hB hk)))
  rw [hv]
  clear hC hv hat hl hB hk
  go_enter Tryz.func74, Tryz.ntmps74
  go_wp2_with fail
  go_region
  all_goals (go_wp2_with fail)
  refine bodyPost_ret (v := actV ({ kindM 1 with node := a.node, sA := a.sA, sc := a.sc, srcs := a.srcs } : ActM)) (by simp [results, Tryz.results74, go_sem, actV, kindM]) rfl ?_
  have hk := HA.out.2.2.2
  refine ⟨{ kindM 1 with node := a.node, sA := a.sA, sc := a.sc, srcs := a.srcs }, rfl, ?_, ?_, ⟨HA.out.2.1.ns, HA.out.2.1.nn, Nat.zero_le _⟩, ?_⟩
  · unfold onlyA
    rw [show a.con.kind = 1 from hk]
    rfl
  · exact ⟨HA.out.1.srcs.below (Below.mono (by first | exact below3 _ _ _ _ | exact below3d _ _ _ _) HA.out.2.2.1), Sl.empty⟩
  · first | exact below3 _ _ _ _ | exact below3d _ _ _ _
set_option maxRecDepth 100000 in
set_option maxHeartbeats 2000000 in
theorem onlyAct_2 (a : ActM) (w : World) (B : Nat) (hat : ActAt w B a) (hB : B ≤ w.heap.size) (hl : ActL a) (hk : a.kind = 2) : Calls Tryz.prog 74 #[actV a] w (RetOA a B w) := by
  obtain ⟨C, hC⟩ : ∃ C, C = (actCs a).toArray := ⟨_, rfl⟩
  have hv : actV a = .agg C := by rw [hC]; rfl
  have c0 : C[0]? = some (.int .i64 2) := by rw [hC, ← hk]; rfl
  have c3 : C[3]? = some (.int .i64 a.call) := by rw [hC]; rfl
  have c2 : C[2]? = some (.int .i64 a.n) := by rw [hC]; rfl
  have HA := Lib.hid (And.intro hat (And.intro hl (And.intro hB hk)))
  rw [hv]
  clear hC hv hat hl hB hk
  go_enter Tryz.func74, Tryz.ntmps74
  go_wp2_with fail
  go_region
  all_goals (go_wp2_with fail)
  refine bodyPost_ret (v := actV ({ kindM 2 with call := a.call, n := a.n } : ActM)) (by simp [results, Tryz.results74, go_sem, actV, kindM]) rfl ?_
  have hk := HA.out.2.2.2
  refine ⟨{ kindM 2 with call := a.call, n := a.n }, rfl, ?_, ?_, ⟨Nat.zero_le _, (fun s hs => by cases hs), Nat.zero_le _⟩, ?_⟩
  · unfold onlyA
    rw [show a.con.kind = 2 from hk]
    rfl
  · exact ⟨SrcsAt.empty, Sl.empty⟩
  · first | exact below3 _ _ _ _ | exact below3d _ _ _ _
set_option maxRecDepth 100000 in
set_option maxHeartbeats 2000000 in
theorem onlyAct_3 (a : ActM) (w : World) (B : Nat) (hat : ActAt w B a) (hB : B ≤ w.heap.size) (hl : ActL a) (hk : a.kind = 3) : Calls Tryz.prog 74 #[actV a] w (RetOA a B w) := by
  obtain ⟨C, hC⟩ : ∃ C, C = (actCs a).toArray := ⟨_, rfl⟩
  have hv : actV a = .agg C := by rw [hC]; rfl
  have c0 : C[0]? = some (.int .i64 3) := by rw [hC, ← hk]; rfl
  have c3 : C[3]? = some (.int .i64 a.call) := by rw [hC]; rfl
  have HA := Lib.hid (And.intro hat (And.intro hl (And.intro hB hk)))
  rw [hv]
  clear hC hv hat hl hB hk
  go_enter Tryz.func74, Tryz.ntmps74
  go_wp2_with fail
  refine bodyPost_ret (v := actV ({ kindM 3 with call := a.call } : ActM)) (by simp [results, Tryz.results74, go_sem, actV, kindM]) rfl ?_
  have hk := HA.out.2.2.2
  refine ⟨{ kindM 3 with call := a.call }, rfl, ?_, ?_, ⟨Nat.zero_le _, (fun s hs => by cases hs), Nat.zero_le _⟩, ?_⟩
  · unfold onlyA
    rw [show a.con.kind = 3 from hk]
    rfl
  · exact ⟨SrcsAt.empty, Sl.empty⟩
  · first | exact below3 _ _ _ _ | exact below3d _ _ _ _
set_option maxRecDepth 100000 in
set_option maxHeartbeats 2000000 in
theorem onlyAct_5 (a : ActM) (w : World) (B : Nat) (hat : ActAt w B a) (hB : B ≤ w.heap.size) (hl : ActL a) (hk : a.kind = 5) : Calls Tryz.prog 74 #[actV a] w (RetOA a B w) := by
  obtain ⟨C, hC⟩ : ∃ C, C = (actCs a).toArray := ⟨_, rfl⟩
  have hv : actV a = .agg C := by rw [hC]; rfl
  have c0 : C[0]? = some (.int .i64 5) := by rw [hC, ← hk]; rfl
  have c2 : C[2]? = some (.int .i64 a.n) := by rw [hC]; rfl
  have HA := Lib.hid (And.intro hat (And.intro hl (And.intro hB hk)))
  rw [hv]
  clear hC hv hat hl hB hk
  go_enter Tryz.func74, Tryz.ntmps74
  go_wp2_with fail
  refine bodyPost_ret (v := actV ({ kindM 5 with n := a.n } : ActM)) (by simp [results, Tryz.results74, go_sem, actV, kindM]) rfl ?_
  have hk := HA.out.2.2.2
  refine ⟨{ kindM 5 with n := a.n }, rfl, ?_, ?_, ⟨Nat.zero_le _, (fun s hs => by cases hs), Nat.zero_le _⟩, ?_⟩
  · unfold onlyA
    rw [show a.con.kind = 5 from hk]
    rfl
  · exact ⟨SrcsAt.empty, Sl.empty⟩
  · first | exact below3 _ _ _ _ | exact below3d _ _ _ _
set_option maxRecDepth 100000 in
set_option maxHeartbeats 2000000 in
theorem onlyAct_6 (a : ActM) (w : World) (B : Nat) (hat : ActAt w B a) (hB : B ≤ w.heap.size) (hl : ActL a) (hk : a.kind = 6) : Calls Tryz.prog 74 #[actV a] w (RetOA a B w) := by
  obtain ⟨C, hC⟩ : ∃ C, C = (actCs a).toArray := ⟨_, rfl⟩
  have hv : actV a = .agg C := by rw [hC]; rfl
  have c0 : C[0]? = some (.int .i64 6) := by rw [hC, ← hk]; rfl
  have c2 : C[2]? = some (.int .i64 a.n) := by rw [hC]; rfl
  have HA := Lib.hid (And.intro hat (And.intro hl (And.intro hB hk)))
  rw [hv]
  clear hC hv hat hl hB hk
  go_enter Tryz.func74, Tryz.ntmps74
  go_wp2_with fail
  refine bodyPost_ret (v := actV ({ kindM 6 with n := a.n } : ActM)) (by simp [results, Tryz.results74, go_sem, actV, kindM]) rfl ?_
  have hk := HA.out.2.2.2
  refine ⟨{ kindM 6 with n := a.n }, rfl, ?_, ?_, ⟨Nat.zero_le _, (fun s hs => by cases hs), Nat.zero_le _⟩, ?_⟩
  · unfold onlyA
    rw [show a.con.kind = 6 from hk]
    rfl
  · exact ⟨SrcsAt.empty, Sl.empty⟩
  · first | exact below3 _ _ _ _ | exact below3d _ _ _ _
set_option maxRecDepth 100000 in
set_option maxHeartbeats 2000000 in
theorem onlyAct_7 (a : ActM) (w : World) (B : Nat) (hat : ActAt w B a) (hB : B ≤ w.heap.size) (hl : ActL a) (hk : a.kind = 7) : Calls Tryz.prog 74 #[actV a] w (RetOA a B w) := by
  obtain ⟨C, hC⟩ : ∃ C, C = (actCs a).toArray := ⟨_, rfl⟩
  have hv : actV a = .agg C := by rw [hC]; rfl
  have c0 : C[0]? = some (.int .i64 7) := by rw [hC, ← hk]; rfl
  have c2 : C[2]? = some (.int .i64 a.n) := by rw [hC]; rfl
  have HA := Lib.hid (And.intro hat (And.intro hl (And.intro hB hk)))
  rw [hv]
  clear hC hv hat hl hB hk
  go_enter Tryz.func74, Tryz.ntmps74
  go_wp2_with fail
  refine bodyPost_ret (v := actV ({ kindM 7 with n := a.n } : ActM)) (by simp [results, Tryz.results74, go_sem, actV, kindM]) rfl ?_
  have hk := HA.out.2.2.2
  refine ⟨{ kindM 7 with n := a.n }, rfl, ?_, ?_, ⟨Nat.zero_le _, (fun s hs => by cases hs), Nat.zero_le _⟩, ?_⟩
  · unfold onlyA
    rw [show a.con.kind = 7 from hk]
    rfl
  · exact ⟨SrcsAt.empty, Sl.empty⟩
  · first | exact below3 _ _ _ _ | exact below3d _ _ _ _
set_option maxRecDepth 100000 in
set_option maxHeartbeats 2000000 in
theorem onlyAct_8 (a : ActM) (w : World) (B : Nat) (hat : ActAt w B a) (hB : B ≤ w.heap.size) (hl : ActL a) (hk : a.kind = 8) : Calls Tryz.prog 74 #[actV a] w (RetOA a B w) := by
  obtain ⟨C, hC⟩ : ∃ C, C = (actCs a).toArray := ⟨_, rfl⟩
  have hv : actV a = .agg C := by rw [hC]; rfl
  have c0 : C[0]? = some (.int .i64 8) := by rw [hC, ← hk]; rfl
  have c7 : C[7]? = some (.slice a.gA a.groups.length a.gc) := by rw [hC]; rfl
  have HA := Lib.hid (And.intro hat (And.intro hl (And.intro hB hk)))
  rw [hv]
  clear hC hv hat hl hB hk
  go_enter Tryz.func74, Tryz.ntmps74
  go_wp2_with fail
  refine bodyPost_ret (v := actV ({ kindM 8 with gA := a.gA, gc := a.gc, groups := a.groups } : ActM)) (by simp [results, Tryz.results74, go_sem, actV, kindM]) rfl ?_
  have hk := HA.out.2.2.2
  refine ⟨{ kindM 8 with gA := a.gA, gc := a.gc, groups := a.groups }, rfl, ?_, ?_, ⟨Nat.zero_le _, (fun s hs => by cases hs), HA.out.2.1.ng⟩, ?_⟩
  · unfold onlyA
    rw [show a.con.kind = 8 from hk]
    rfl
  · exact ⟨SrcsAt.empty, Sl.below HA.out.1.groups (Below.mono (by first | exact below3 _ _ _ _ | exact below3d _ _ _ _) HA.out.2.2.1)⟩
  · first | exact below3 _ _ _ _ | exact below3d _ _ _ _
set_option maxRecDepth 100000 in
set_option maxHeartbeats 2000000 in
theorem onlyAct_10 (a : ActM) (w : World) (B : Nat) (hat : ActAt w B a) (hB : B ≤ w.heap.size) (hl : ActL a) (hk : a.kind = 10) : Calls Tryz.prog 74 #[actV a] w (RetOA a B w) := by
  obtain ⟨C, hC⟩ : ∃ C, C = (actCs a).toArray := ⟨_, rfl⟩
  have hv : actV a = .agg C := by rw [hC]; rfl
  have c0 : C[0]? = some (.int .i64 10) := by rw [hC, ← hk]; rfl
  have c1 : C[1]? = some (.int .i64 a.who) := by rw [hC]; rfl
  have c2 : C[2]? = some (.int .i64 a.n) := by rw [hC]; rfl
  have HA := Lib.hid (And.intro hat (And.intro hl (And.intro hB hk)))
  rw [hv]
  clear hC hv hat hl hB hk
  go_enter Tryz.func74, Tryz.ntmps74
  go_wp2_with fail
  go_region
  all_goals (go_wp2_with fail)
  refine bodyPost_ret (v := actV ({ kindM 10 with who := a.who, n := a.n } : ActM)) (by simp [results, Tryz.results74, go_sem, actV, kindM]) rfl ?_
  have hk := HA.out.2.2.2
  refine ⟨{ kindM 10 with who := a.who, n := a.n }, rfl, ?_, ?_, ⟨Nat.zero_le _, (fun s hs => by cases hs), Nat.zero_le _⟩, ?_⟩
  · unfold onlyA
    rw [show a.con.kind = 10 from hk]
    rfl
  · exact ⟨SrcsAt.empty, Sl.empty⟩
  · first | exact below3 _ _ _ _ | exact below3d _ _ _ _
set_option maxRecDepth 100000 in
set_option maxHeartbeats 2000000 in
theorem onlyAct_11 (a : ActM) (w : World) (B : Nat) (hat : ActAt w B a) (hB : B ≤ w.heap.size) (hl : ActL a) (hk : a.kind = 11) : Calls Tryz.prog 74 #[actV a] w (RetOA a B w) := by
  obtain ⟨C, hC⟩ : ∃ C, C = (actCs a).toArray := ⟨_, rfl⟩
  have hv : actV a = .agg C := by rw [hC]; rfl
  have c0 : C[0]? = some (.int .i64 11) := by rw [hC, ← hk]; rfl
  have c1 : C[1]? = some (.int .i64 a.who) := by rw [hC]; rfl
  have HA := Lib.hid (And.intro hat (And.intro hl (And.intro hB hk)))
  rw [hv]
  clear hC hv hat hl hB hk
  go_enter Tryz.func74, Tryz.ntmps74
  go_wp2_with fail
  refine bodyPost_ret (v := actV ({ kindM 11 with who := a.who } : ActM)) (by simp [results, Tryz.results74, go_sem, actV, kindM]) rfl ?_
  have hk := HA.out.2.2.2
  refine ⟨{ kindM 11 with who := a.who }, rfl, ?_, ?_, ⟨Nat.zero_le _, (fun s hs => by cases hs), Nat.zero_le _⟩, ?_⟩
  · unfold onlyA
    rw [show a.con.kind = 11 from hk]
    rfl
  · exact ⟨SrcsAt.empty, Sl.empty⟩
  · first | exact below3 _ _ _ _ | exact below3d _ _ _ _
set_option maxRecDepth 100000 in
set_option maxHeartbeats 2000000 in
theorem onlyAct_12 (a : ActM) (w : World) (B : Nat) (hat : ActAt w B a) (hB : B ≤ w.heap.size) (hl : ActL a) (hk : a.kind = 12) : Calls Tryz.prog 74 #[actV a] w (RetOA a B w) := by
  obtain ⟨C, hC⟩ : ∃ C, C = (actCs a).toArray := ⟨_, rfl⟩
  have hv : actV a = .agg C := by rw [hC]; rfl
  have c0 : C[0]? = some (.int .i64 12) := by rw [hC, ← hk]; rfl
  have c1 : C[1]? = some (.int .i64 a.who) := by rw [hC]; rfl
  have HA := Lib.hid (And.intro hat (And.intro hl (And.intro hB hk)))
  rw [hv]
  clear hC hv hat hl hB hk
  go_enter Tryz.func74, Tryz.ntmps74
  go_wp2_with fail
  refine bodyPost_ret (v := actV ({ kindM 12 with who := a.who } : ActM)) (by simp [results, Tryz.results74, go_sem, actV, kindM]) rfl ?_
  have hk := HA.out.2.2.2
  refine ⟨{ kindM 12 with who := a.who }, rfl, ?_, ?_, ⟨Nat.zero_le _, (fun s hs => by cases hs), Nat.zero_le _⟩, ?_⟩
  · unfold onlyA
    rw [show a.con.kind = 12 from hk]
    rfl
  · exact ⟨SrcsAt.empty, Sl.empty⟩
  · first | exact below3 _ _ _ _ | exact below3d _ _ _ _
set_option maxRecDepth 100000 in
set_option maxHeartbeats 2000000 in
theorem onlyAct_13 (a : ActM) (w : World) (B : Nat) (hat : ActAt w B a) (hB : B ≤ w.heap.size) (hl : ActL a) (hk : a.kind = 13) : Calls Tryz.prog 74 #[actV a] w (RetOA a B w) := by
  obtain ⟨C, hC⟩ : ∃ C, C = (actCs a).toArray := ⟨_, rfl⟩
  have hv : actV a = .agg C := by rw [hC]; rfl
  have c0 : C[0]? = some (.int .i64 13) := by rw [hC, ← hk]; rfl
  have c1 : C[1]? = some (.int .i64 a.who) := by rw [hC]; rfl
  have HA := Lib.hid (And.intro hat (And.intro hl (And.intro hB hk)))
  rw [hv]
  clear hC hv hat hl hB hk
  go_enter Tryz.func74, Tryz.ntmps74
  go_wp2_with fail
  refine bodyPost_ret (v := actV ({ kindM 13 with who := a.who } : ActM)) (by simp [results, Tryz.results74, go_sem, actV, kindM]) rfl ?_
  have hk := HA.out.2.2.2
  refine ⟨{ kindM 13 with who := a.who }, rfl, ?_, ?_, ⟨Nat.zero_le _, (fun s hs => by cases hs), Nat.zero_le _⟩, ?_⟩
  · unfold onlyA
    rw [show a.con.kind = 13 from hk]
    rfl
  · exact ⟨SrcsAt.empty, Sl.empty⟩
  · first | exact below3 _ _ _ _ | exact below3d _ _ _ _
set_option maxRecDepth 100000 in
set_option maxHeartbeats 2000000 in
theorem onlyAct_14 (a : ActM) (w : World) (B : Nat) (hat : ActAt w B a) (hB : B ≤ w.heap.size) (hl : ActL a) (hk : a.kind = 14) : Calls Tryz.prog 74 #[actV a] w (RetOA a B w) := by
  obtain ⟨C, hC⟩ : ∃ C, C = (actCs a).toArray := ⟨_, rfl⟩
  have hv : actV a = .agg C := by rw [hC]; rfl
  have c0 : C[0]? = some (.int .i64 14) := by rw [hC, ← hk]; rfl
  have c1 : C[1]? = some (.int .i64 a.who) := by rw [hC]; rfl
  have c3 : C[3]? = some (.int .i64 a.call) := by rw [hC]; rfl
  have c2 : C[2]? = some (.int .i64 a.n) := by rw [hC]; rfl
  have HA := Lib.hid (And.intro hat (And.intro hl (And.intro hB hk)))
  rw [hv]
  clear hC hv hat hl hB hk
  go_enter Tryz.func74, Tryz.ntmps74
  go_wp2_with fail
  go_region
  all_goals (go_wp2_with fail)
  refine bodyPost_ret (v := actV ({ kindM 14 with who := a.who, call := a.call, n := a.n } : ActM)) (by simp [results, Tryz.results74, go_sem, actV, kindM]) rfl ?_
  have hk := HA.out.2.2.2
  refine ⟨{ kindM 14 with who := a.who, call := a.call, n := a.n }, rfl, ?_, ?_, ⟨Nat.zero_le _, (fun s hs => by cases hs), Nat.zero_le _⟩, ?_⟩
  · unfold onlyA
    rw [show a.con.kind = 14 from hk]
    rfl
  · exact ⟨SrcsAt.empty, Sl.empty⟩
  · first | exact below3 _ _ _ _ | exact below3d _ _ _ _
set_option maxRecDepth 100000 in
set_option maxHeartbeats 2000000 in
theorem onlyAct_15 (a : ActM) (w : World) (B : Nat) (hat : ActAt w B a) (hB : B ≤ w.heap.size) (hl : ActL a) (hk : a.kind = 15) : Calls Tryz.prog 74 #[actV a] w (RetOA a B w) := by
  obtain ⟨C, hC⟩ : ∃ C, C = (actCs a).toArray := ⟨_, rfl⟩
  have hv : actV a = .agg C := by rw [hC]; rfl
  have c0 : C[0]? = some (.int .i64 15) := by rw [hC, ← hk]; rfl
  have c1 : C[1]? = some (.int .i64 a.who) := by rw [hC]; rfl
  have c3 : C[3]? = some (.int .i64 a.call) := by rw [hC]; rfl
  have c4 : C[4]? = some (.int .i64 a.other) := by rw [hC]; rfl
  have HA := Lib.hid (And.intro hat (And.intro hl (And.intro hB hk)))
  rw [hv]
  clear hC hv hat hl hB hk
  go_enter Tryz.func74, Tryz.ntmps74
  go_wp2_with fail
  go_region
  all_goals (go_wp2_with fail)
  refine bodyPost_ret (v := actV ({ kindM 15 with who := a.who, call := a.call, other := a.other } : ActM)) (by simp [results, Tryz.results74, go_sem, actV, kindM]) rfl ?_
  have hk := HA.out.2.2.2
  refine ⟨{ kindM 15 with who := a.who, call := a.call, other := a.other }, rfl, ?_, ?_, ⟨Nat.zero_le _, (fun s hs => by cases hs), Nat.zero_le _⟩, ?_⟩
  · unfold onlyA
    rw [show a.con.kind = 15 from hk]
    rfl
  · exact ⟨SrcsAt.empty, Sl.empty⟩
  · first | exact below3 _ _ _ _ | exact below3d _ _ _ _
set_option maxRecDepth 100000 in
set_option maxHeartbeats 2000000 in
theorem onlyAct_16 (a : ActM) (w : World) (B : Nat) (hat : ActAt w B a) (hB : B ≤ w.heap.size) (hl : ActL a) (hk : a.kind = 16) : Calls Tryz.prog 74 #[actV a] w (RetOA a B w) := by
  obtain ⟨C, hC⟩ : ∃ C, C = (actCs a).toArray := ⟨_, rfl⟩
  have hv : actV a = .agg C := by rw [hC]; rfl
  have c0 : C[0]? = some (.int .i64 16) := by rw [hC, ← hk]; rfl
  have c1 : C[1]? = some (.int .i64 a.who) := by rw [hC]; rfl
  have c3 : C[3]? = some (.int .i64 a.call) := by rw [hC]; rfl
  have c4 : C[4]? = some (.int .i64 a.other) := by rw [hC]; rfl
  have HA := Lib.hid (And.intro hat (And.intro hl (And.intro hB hk)))
  rw [hv]
  clear hC hv hat hl hB hk
  go_enter Tryz.func74, Tryz.ntmps74
  go_wp2_with fail
  go_region
  all_goals (go_wp2_with fail)
  refine bodyPost_ret (v := actV ({ kindM 16 with who := a.who, call := a.call, other := a.other } : ActM)) (by simp [results, Tryz.results74, go_sem, actV, kindM]) rfl ?_
  have hk := HA.out.2.2.2
  refine ⟨{ kindM 16 with who := a.who, call := a.call, other := a.other }, rfl, ?_, ?_, ⟨Nat.zero_le _, (fun s hs => by cases hs), Nat.zero_le _⟩, ?_⟩
  · unfold onlyA
    rw [show a.con.kind = 16 from hk]
    rfl
  · exact ⟨SrcsAt.empty, Sl.empty⟩
  · first | exact below3 _ _ _ _ | exact below3d _ _ _ _
set_option maxRecDepth 100000 in
set_option maxHeartbeats 2000000 in
theorem onlyAct_17 (a : ActM) (w : World) (B : Nat) (hat : ActAt w B a) (hB : B ≤ w.heap.size) (hl : ActL a) (hk : a.kind = 17) : Calls Tryz.prog 74 #[actV a] w (RetOA a B w) := by
  obtain ⟨C, hC⟩ : ∃ C, C = (actCs a).toArray := ⟨_, rfl⟩
  have hv : actV a = .agg C := by rw [hC]; rfl
  have c0 : C[0]? = some (.int .i64 17) := by rw [hC, ← hk]; rfl
  have c1 : C[1]? = some (.int .i64 a.who) := by rw [hC]; rfl
  have c3 : C[3]? = some (.int .i64 a.call) := by rw [hC]; rfl
  have HA := Lib.hid (And.intro hat (And.intro hl (And.intro hB hk)))
  rw [hv]
  clear hC hv hat hl hB hk
  go_enter Tryz.func74, Tryz.ntmps74
  go_wp2_with fail
  go_region
  all_goals (go_wp2_with fail)
  refine bodyPost_ret (v := actV ({ kindM 17 with who := a.who, call := a.call } : ActM)) (by simp [results, Tryz.results74, go_sem, actV, kindM]) rfl ?_
  have hk := HA.out.2.2.2
  refine ⟨{ kindM 17 with who := a.who, call := a.call }, rfl, ?_, ?_, ⟨Nat.zero_le _, (fun s hs => by cases hs), Nat.zero_le _⟩, ?_⟩
  · unfold onlyA
    rw [show a.con.kind = 17 from hk]
    rfl
  · exact ⟨SrcsAt.empty, Sl.empty⟩
  · first | exact below3 _ _ _ _ | exact below3d _ _ _ _
set_option maxRecDepth 100000 in
set_option maxHeartbeats 2000000 in
theorem onlyAct_18 (a : ActM) (w : World) (B : Nat) (hat : ActAt w B a) (hB : B ≤ w.heap.size) (hl : ActL a) (hk : a.kind = 18) : Calls Tryz.prog 74 #[actV a] w (RetOA a B w) := by
  obtain ⟨C, hC⟩ : ∃ C, C = (actCs a).toArray := ⟨_, rfl⟩
  have hv : actV a = .agg C := by rw [hC]; rfl
  have c0 : C[0]? = some (.int .i64 18) := by rw [hC, ← hk]; rfl
  have c1 : C[1]? = some (.int .i64 a.who) := by rw [hC]; rfl
  have c2 : C[2]? = some (.int .i64 a.n) := by rw [hC]; rfl
  have HA := Lib.hid (And.intro hat (And.intro hl (And.intro hB hk)))
  rw [hv]
  clear hC hv hat hl hB hk
  go_enter Tryz.func74, Tryz.ntmps74
  go_wp2_with fail
  go_region
  all_goals (go_wp2_with fail)
  refine bodyPost_ret (v := actV ({ kindM 18 with who := a.who, n := a.n } : ActM)) (by simp [results, Tryz.results74, go_sem, actV, kindM]) rfl ?_
  have hk := HA.out.2.2.2
  refine ⟨{ kindM 18 with who := a.who, n := a.n }, rfl, ?_, ?_, ⟨Nat.zero_le _, (fun s hs => by cases hs), Nat.zero_le _⟩, ?_⟩
  · unfold onlyA
    rw [show a.con.kind = 18 from hk]
    rfl
  · exact ⟨SrcsAt.empty, Sl.empty⟩
  · first | exact below3 _ _ _ _ | exact below3d _ _ _ _
set_option maxRecDepth 100000 in
set_option maxHeartbeats 2000000 in
theorem onlyAct_19 (a : ActM) (w : World) (B : Nat) (hat : ActAt w B a) (hB : B ≤ w.heap.size) (hl : ActL a) (hk : a.kind = 19) : Calls Tryz.prog 74 #[actV a] w (RetOA a B w) := by
  obtain ⟨C, hC⟩ : ∃ C, C = (actCs a).toArray := ⟨_, rfl⟩
  have hv : actV a = .agg C := by rw [hC]; rfl
  have c0 : C[0]? = some (.int .i64 19) := by rw [hC, ← hk]; rfl
  have c1 : C[1]? = some (.int .i64 a.who) := by rw [hC]; rfl
  have c2 : C[2]? = some (.int .i64 a.n) := by rw [hC]; rfl
  have c5 : C[5]? = some (.int .i64 a.node) := by rw [hC]; rfl
  have HA := Lib.hid (And.intro hat (And.intro hl (And.intro hB hk)))
  rw [hv]
  clear hC hv hat hl hB hk
  go_enter Tryz.func74, Tryz.ntmps74
  go_wp2_with fail
  go_region
  all_goals (go_wp2_with fail)
  refine bodyPost_ret (v := actV ({ kindM 19 with who := a.who, n := a.n, node := a.node } : ActM)) (by simp [results, Tryz.results74, go_sem, actV, kindM]) rfl ?_
  have hk := HA.out.2.2.2
  refine ⟨{ kindM 19 with who := a.who, n := a.n, node := a.node }, rfl, ?_, ?_, ⟨Nat.zero_le _, (fun s hs => by cases hs), Nat.zero_le _⟩, ?_⟩
  · unfold onlyA
    rw [show a.con.kind = 19 from hk]
    rfl
  · exact ⟨SrcsAt.empty, Sl.empty⟩
  · first | exact below3 _ _ _ _ | exact below3d _ _ _ _
set_option maxRecDepth 100000 in
set_option maxHeartbeats 2000000 in
theorem onlyAct_rest (a : ActM) (w : World) (B : Nat) (hk : a.kind ≠ 1 ∧ a.kind ≠ 2 ∧ a.kind ≠ 3 ∧ a.kind ≠ 5 ∧ a.kind ≠ 6 ∧ a.kind ≠ 7 ∧ a.kind ≠ 8 ∧ a.kind ≠ 10 ∧ a.kind ≠ 11 ∧ a.kind ≠ 12 ∧ a.kind ≠ 13 ∧ a.kind ≠ 14 ∧ a.kind ≠ 15 ∧ a.kind ≠ 16 ∧ a.kind ≠ 17 ∧ a.kind ≠ 18 ∧ a.kind ≠ 19) : Calls Tryz.prog 74 #[actV a] w (RetOA a B w) := by
  obtain ⟨C, hC⟩ : ∃ C, C = (actCs a).toArray := ⟨_, rfl⟩
  have hv : actV a = .agg C := by rw [hC]; rfl
  obtain ⟨kk, hkk⟩ : ∃ kk, kk = a.kind := ⟨_, rfl⟩
  have c0 : C[0]? = some (.int .i64 kk) := by rw [hC, hkk]; rfl
  have HK := Lib.hid (And.intro hkk hk)
  rw [hv]
  rw [← hkk] at hk
  obtain ⟨h1, h2, h3, h5, h6, h7, h8, h10, h11, h12, h13, h14, h15, h16, h17, h18, h19⟩ := hk
  have e1 : (kk == 1) = false := by simpa using h1
  have e2 : (kk == 2) = false := by simpa using h2
  have e3 : (kk == 3) = false := by simpa using h3
  have e5 : (kk == 5) = false := by simpa using h5
  have e6 : (kk == 6) = false := by simpa using h6
  have e7 : (kk == 7) = false := by simpa using h7
  have e8 : (kk == 8) = false := by simpa using h8
  have e10 : (kk == 10) = false := by simpa using h10
  have e11 : (kk == 11) = false := by simpa using h11
  have e12 : (kk == 12) = false := by simpa using h12
  have e13 : (kk == 13) = false := by simpa using h13
  have e14 : (kk == 14) = false := by simpa using h14
  have e15 : (kk == 15) = false := by simpa using h15
  have e16 : (kk == 16) = false := by simpa using h16
  have e17 : (kk == 17) = false := by simpa using h17
  have e18 : (kk == 18) = false := by simpa using h18
  have e19 : (kk == 19) = false := by simpa using h19
  clear hC hv hkk h1 h2 h3 h5 h6 h7 h8 h10 h11 h12 h13 h14 h15 h16 h17 h18 h19
  go_enter Tryz.func74, Tryz.ntmps74
  go_wp2_with fail
  refine bodyPost_ret (v := actV (kindM kk)) (by simp [results, Tryz.results74, go_sem, actV, kindM]) rfl ?_
  refine ⟨kindM kk, rfl, ?_, ⟨SrcsAt.empty, Sl.empty⟩, ⟨Nat.zero_le _, (fun s hs => by cases hs), Nat.zero_le _⟩, ?_⟩
  · have e : actF a.kind = [] := by
      obtain ⟨_, h1, h2, h3, h5, h6, h7, h8, h10, h11, h12, h13, h14, h15, h16, h17, h18, h19⟩ := HK.out
      by_cases h4 : a.kind = 4
      · rw [h4]
        rfl
      by_cases h9 : a.kind = 9
      · rw [h9]
        rfl
      exact tabF_out (by show a.kind < 1 ∨ ((19 : Nat) : Int) < a.kind; omega)
    unfold onlyA
    rw [show actF a.con.kind = [] from e, HK.out.1]
    rfl
  · first | exact below3 _ _ _ _ | exact below3d _ _ _ _
theorem onlyAct_any (a : ActM) (w : World) (B : Nat) (hat : ActAt w B a) (hB : B ≤ w.heap.size) (hl : ActL a) : Calls Tryz.prog 74 #[actV a] w (RetOA a B w) := by
  by_cases h1 : a.kind = 1
  · exact onlyAct_1 a w B hat hB hl h1
  by_cases h2 : a.kind = 2
  · exact onlyAct_2 a w B hat hB hl h2
  by_cases h3 : a.kind = 3
  · exact onlyAct_3 a w B hat hB hl h3
  by_cases h5 : a.kind = 5
  · exact onlyAct_5 a w B hat hB hl h5
  by_cases h6 : a.kind = 6
  · exact onlyAct_6 a w B hat hB hl h6
  by_cases h7 : a.kind = 7
  · exact onlyAct_7 a w B hat hB hl h7
  by_cases h8 : a.kind = 8
  · exact onlyAct_8 a w B hat hB hl h8
  by_cases h10 : a.kind = 10
  · exact onlyAct_10 a w B hat hB hl h10
  by_cases h11 : a.kind = 11
  · exact onlyAct_11 a w B hat hB hl h11
  by_cases h12 : a.kind = 12
  · exact onlyAct_12 a w B hat hB hl h12
  by_cases h13 : a.kind = 13
  · exact onlyAct_13 a w B hat hB hl h13
  by_cases h14 : a.kind = 14
  · exact onlyAct_14 a w B hat hB hl h14
  by_cases h15 : a.kind = 15
  · exact onlyAct_15 a w B hat hB hl h15
  by_cases h16 : a.kind = 16
  · exact onlyAct_16 a w B hat hB hl h16
  by_cases h17 : a.kind = 17
  · exact onlyAct_17 a w B hat hB hl h17
  by_cases h18 : a.kind = 18
  · exact onlyAct_18 a w B hat hB hl h18
  by_cases h19 : a.kind = 19
  · exact onlyAct_19 a w B hat hB hl h19
  exact onlyAct_rest a w B ⟨h1, h2, h3, h5, h6, h7, h8, h10, h11, h12, h13, h14, h15, h16, h17, h18, h19⟩
end
section
open Go.ChangeShapes Go.WideShapes Go.ChangeAt Go.RowKit

section
variable {H : Type} {enc : TypeId × Value → H} {P : Program}
/-- a slice of structs of whatever fields: each element's cells and its own reading. -/
theorem recs_whole {W : World} {t e : TypeId} {C : Nat} {v : Value} {x : DataW H × List MemPlace} {base fuel : Nat} {spare : Nat → Bool} {held : Bool}
    (ht : P.underlying t = some (.slice e)) (hC : P.cellsOf e = C) (hpos : 0 < C) (hf : DataW.trod enc P W base spare held fuel t [v] = some x) :
    ∃ (A : Option Addr) (n cap : Nat), v = .slice A n cap ∧ n ≤ cap ∧ cap ≤ 9223372036854775807 ∧ (A = none → cap = 0) ∧
      ∀ i, i < n → ∃ b o cs, A = some ⟨b, o, none⟩ ∧ b < W.heap.size ∧ cs.length = C ∧ (∀ (j : Nat) (u : Value), cs[j]? = some u → W.cell? ⟨b, o + i * C + j, none⟩ = some u) ∧ ∃ (y : DataW H × List MemPlace) (m : Nat), DataW.trod enc P W base spare held m e cs = some y := by
  subst hC
  rcases Go.Deep.open_slice ht hf with ⟨hcs, _⟩ | ⟨a, len, cap, m, n, D, Pl, hcs, hb, hl, hm, hmm, hx, hi⟩
  · simp at hcs
    subst hcs
    exact ⟨none, 0, 0, rfl, by omega, by omega, fun _ => rfl, fun i h => absurd h (by omega)⟩
  · simp at hcs
    subst hcs
    refine ⟨some a, len, cap, rfl, hl, by unfold maxLen at hm; omega, (fun h => by cases h), fun i hil => ?_⟩
    have hml : len ≤ m := by
      rw [hmm]
      split <;> omega
    obtain ⟨cs', hc, ht'⟩ := hi i (by omega)
    obtain ⟨_, hcl, hat⟩ := World.cells?_some hc
    obtain ⟨cs0, hc0, _⟩ := hi 0 (by omega)
    obtain ⟨_, hcl0, hat0⟩ := World.cells?_some hc0
    have h0 := hat0 0 hpos
    rw [List.getElem?_eq_getElem (by omega), Nat.zero_mul] at h0
    have hs0 : a.spot = none := by simpa [Addr.add] using World.cell?_spot h0
    have hlt : a.block < W.heap.size := by simpa [Addr.add] using World.block_lt_of_cell? W _ h0
    refine ⟨a.block, a.off, cs', by cases a; simp at hs0; simp [hs0], hlt, hcl, fun j u hj => ?_, _, _, ht'⟩
    have hjl : j < P.cellsOf e := by rw [← hcl]; exact (List.getElem?_eq_some_iff.1 hj).1
    have h1 := (hat j hjl).trans hj
    rw [Go.Deep.add_add] at h1
    have := add_at h1 hs0
    rw [Nat.add_assoc]
    exact this
theorem slice_form {W : World} {t e : TypeId} {v : Value} {x : DataW H × List MemPlace} {base fuel : Nat} {spare : Nat → Bool} {held : Bool}
    (ht : P.underlying t = some (.slice e)) (hf : DataW.trod enc P W base spare held fuel t [v] = some x) : ∃ A n c, v = .slice A n c := by
  rcases Go.Deep.open_slice ht hf with ⟨hcs, _⟩ | ⟨a, len, cap, m, n, D, Pl, hcs, _⟩
  · simp at hcs
    exact ⟨_, _, _, hcs⟩
  · simp at hcs
    exact ⟨_, _, _, hcs⟩
end
variable {H : Type} {enc : TypeId × Value → H}
set_option maxRecDepth 100000 in
set_option maxHeartbeats 1000000 in
theorem ev_form {W : World} {cs : List Value} {x : DataW H × List MemPlace} {base fuel : Nat} {spare : Nat → Bool} {held : Bool} (hl : cs.length = 28) (hf : DataW.trod enc Tryz.prog W base spare held fuel 35 cs = some x) : ∃ e : EvM, evCs e = cs := by
  match cs, hl with
  | [c0, c1, c2, c3, c4, c5, c6, c7, c8, c9, c10, c11, c12, c13, c14, c15, c16, c17, c18, c19, c20, c21, c22, c23, c24, c25, c26, c27], _ =>
    obtain ⟨xs, n, _, _, _, hlen, hg⟩ := DataW.trod_struct Tryz.underlying35 hf
    match xs, hlen with
    | [y0, y1, y2, y3, y4, y5, y6, y7, y8, y9, y10], _ =>
      obtain ⟨z0, e0, _, _⟩ := DataW.trod_int Tryz.underlying3 (show DataW.trod enc Tryz.prog W base spare held _ 3 [c0] = some y0 from hg 0 _ rfl)
      obtain ⟨z1, e1, _, _⟩ := DataW.trod_int Tryz.underlying2 (show DataW.trod enc Tryz.prog W base spare held _ 2 [c1] = some y1 from hg 1 _ rfl)
      obtain ⟨z2, e2, _, _⟩ := DataW.trod_int Tryz.underlying3 (show DataW.trod enc Tryz.prog W base spare held _ 3 [c2] = some y2 from hg 2 _ rfl)
      obtain ⟨z3, e3, _, _⟩ := DataW.trod_int Tryz.underlying2 (show DataW.trod enc Tryz.prog W base spare held _ 2 [c3] = some y3 from hg 3 _ rfl)
      obtain ⟨z4, e4, _, _⟩ := DataW.trod_int Tryz.underlying2 (show DataW.trod enc Tryz.prog W base spare held _ 2 [c4] = some y4 from hg 4 _ rfl)
      obtain ⟨z5, e5, _, _⟩ := DataW.trod_int Tryz.underlying2 (show DataW.trod enc Tryz.prog W base spare held _ 2 [c5] = some y5 from hg 5 _ rfl)
      obtain ⟨xsE, nE, _, _, _, hlE, hgE⟩ := DataW.trod_struct Tryz.underlying25 (show DataW.trod enc Tryz.prog W base spare held _ 25 [c6, c7, c8] = some y6 from hg 6 _ rfl)
      match xsE, hlE with
      | [E0, E1, E2], _ =>
      obtain ⟨z6, e6, _, _⟩ := DataW.trod_int Tryz.underlying2 (show DataW.trod enc Tryz.prog W base spare held _ 2 [c6] = some E0 from hgE 0 _ rfl)
      obtain ⟨z7, e7, _, _⟩ := DataW.trod_int Tryz.underlying3 (show DataW.trod enc Tryz.prog W base spare held _ 3 [c7] = some E1 from hgE 1 _ rfl)
      obtain ⟨A8, n8, q8, e8⟩ := slice_form Tryz.underlying23 (show DataW.trod enc Tryz.prog W base spare held _ 23 [c8] = some E2 from hgE 2 _ rfl)
      obtain ⟨xsO, nO, _, _, _, hlO, hgO⟩ := DataW.trod_struct Tryz.underlying27 (show DataW.trod enc Tryz.prog W base spare held _ 27 [c9, c10, c11, c12, c13] = some y7 from hg 7 _ rfl)
      match xsO, hlO with
      | [O0, O1, O2, O3, O4], _ =>
      obtain ⟨z9, e9, _, _⟩ := DataW.trod_int Tryz.underlying3 (show DataW.trod enc Tryz.prog W base spare held _ 3 [c9] = some O0 from hgO 0 _ rfl)
      obtain ⟨z10, e10, _, _⟩ := DataW.trod_int Tryz.underlying2 (show DataW.trod enc Tryz.prog W base spare held _ 2 [c10] = some O1 from hgO 1 _ rfl)
      obtain ⟨z11, e11, _, _⟩ := DataW.trod_int Tryz.underlying3 (show DataW.trod enc Tryz.prog W base spare held _ 3 [c11] = some O2 from hgO 2 _ rfl)
      obtain ⟨z12, e12, _, _⟩ := DataW.trod_int Tryz.underlying2 (show DataW.trod enc Tryz.prog W base spare held _ 2 [c12] = some O3 from hgO 3 _ rfl)
      obtain ⟨z13, e13, _, _⟩ := DataW.trod_int Tryz.underlying3 (show DataW.trod enc Tryz.prog W base spare held _ 3 [c13] = some O4 from hgO 4 _ rfl)
      obtain ⟨xsS, nS, _, _, _, hlS, hgS⟩ := DataW.trod_struct Tryz.underlying29 (show DataW.trod enc Tryz.prog W base spare held _ 29 [c14, c15, c16, c17, c18] = some y8 from hg 8 _ rfl)
      match xsS, hlS with
      | [S0, S1, S2, S3, S4], _ =>
      obtain ⟨z14, e14, _, _⟩ := DataW.trod_int Tryz.underlying3 (show DataW.trod enc Tryz.prog W base spare held _ 3 [c14] = some S0 from hgS 0 _ rfl)
      obtain ⟨z15, e15, _, _⟩ := DataW.trod_int Tryz.underlying2 (show DataW.trod enc Tryz.prog W base spare held _ 2 [c15] = some S1 from hgS 1 _ rfl)
      obtain ⟨z16, e16, _, _⟩ := DataW.trod_int Tryz.underlying3 (show DataW.trod enc Tryz.prog W base spare held _ 3 [c16] = some S2 from hgS 2 _ rfl)
      obtain ⟨z17, e17, _, _⟩ := DataW.trod_int Tryz.underlying3 (show DataW.trod enc Tryz.prog W base spare held _ 3 [c17] = some S3 from hgS 3 _ rfl)
      obtain ⟨z18, e18, _, _⟩ := DataW.trod_int Tryz.underlying2 (show DataW.trod enc Tryz.prog W base spare held _ 2 [c18] = some S4 from hgS 4 _ rfl)
      obtain ⟨xsX, nX, _, _, _, hlX, hgX⟩ := DataW.trod_struct Tryz.underlying33 (show DataW.trod enc Tryz.prog W base spare held _ 33 [c19, c20, c21, c22, c23, c24, c25, c26] = some y9 from hg 9 _ rfl)
      match xsX, hlX with
      | [X0, X1, X2, X3, X4, X5, X6, X7], _ =>
      obtain ⟨z19, e19, _, _⟩ := DataW.trod_int Tryz.underlying3 (show DataW.trod enc Tryz.prog W base spare held _ 3 [c19] = some X0 from hgX 0 _ rfl)
      obtain ⟨z20, e20, _, _⟩ := DataW.trod_int Tryz.underlying3 (show DataW.trod enc Tryz.prog W base spare held _ 3 [c20] = some X1 from hgX 1 _ rfl)
      obtain ⟨z21, e21, _, _⟩ := DataW.trod_int Tryz.underlying2 (show DataW.trod enc Tryz.prog W base spare held _ 2 [c21] = some X2 from hgX 2 _ rfl)
      obtain ⟨z22, e22, _, _⟩ := DataW.trod_int Tryz.underlying2 (show DataW.trod enc Tryz.prog W base spare held _ 2 [c22] = some X3 from hgX 3 _ rfl)
      obtain ⟨z23, e23, _, _⟩ := DataW.trod_int Tryz.underlying2 (show DataW.trod enc Tryz.prog W base spare held _ 2 [c23] = some X4 from hgX 4 _ rfl)
      obtain ⟨z24, e24, _, _⟩ := DataW.trod_int Tryz.underlying3 (show DataW.trod enc Tryz.prog W base spare held _ 3 [c24] = some X5 from hgX 5 _ rfl)
      obtain ⟨A25, n25, q25, e25⟩ := slice_form Tryz.underlying30 (show DataW.trod enc Tryz.prog W base spare held _ 30 [c25] = some X6 from hgX 6 _ rfl)
      obtain ⟨A26, n26, q26, e26⟩ := slice_form Tryz.underlying31 (show DataW.trod enc Tryz.prog W base spare held _ 31 [c26] = some X7 from hgX 7 _ rfl)
      obtain ⟨A27, n27, q27, e27⟩ := slice_form Tryz.underlying23 (show DataW.trod enc Tryz.prog W base spare held _ 23 [c27] = some y10 from hg 10 _ rfl)
      simp at e0 e1 e2 e3 e4 e5 e6 e7 e9 e10 e11 e12 e13 e14 e15 e16 e17 e18 e19 e20 e21 e22 e23 e24
      subst e0 e1 e2 e3 e4 e5 e6 e7 e8 e9 e10 e11 e12 e13 e14 e15 e16 e17 e18 e19 e20 e21 e22 e23 e24 e25 e26 e27
      refine ⟨⟨z0, z1, z2, z3, z4, z5, z6, z7, A8, q8, List.replicate n8 0, ⟨z9, z10, z11, z12, z13⟩, ⟨z14, z15, z16, z17, z18⟩, ⟨z19, z20, z21, z22, z23, z24, A25, q25, List.replicate n25 ⟨0, none, 0, []⟩, A26, q26, List.replicate n26 0⟩, A27, q27, List.replicate n27 0⟩, ?_⟩
      simp [evCs]
set_option maxRecDepth 100000 in
theorem open_evs {W : World} {r : Reach} {b0 : Nat} {v : Value} {d : DataW H} {p : List MemPlace} {base : Nat} {spare : Nat → Bool} {held : Bool}
    (hv : Value.okWide Tryz.prog W r b0 44 v) (h : DataW.Trod enc Tryz.prog W base spare held 44 v d p) :
    ∃ (A : Option Addr) (us : List EvM) (cap : Nat), v = .slice A us.length cap ∧ RecsAt evCs W W.heap.size A us ∧ us.length ≤ 9223372036854775807 := by
  obtain ⟨A, len, cap, rfl⟩ := okWide_slice Tryz.underlying44 hv
  obtain ⟨fuel, hf⟩ := h
  obtain ⟨A', n, cap', e, h1, h2, h3, h4⟩ := recs_whole (C := 28) Tryz.underlying44 (by kernel_rfl) (by decide) (show DataW.trod enc Tryz.prog W base spare held fuel 44 [.slice A len cap] = some _ from by simpa [Value.cells] using hf)
  injection e with e1 e2 e3
  subst e1 e2 e3
  obtain ⟨us, hl, hR⟩ := list_of (fun i u => ∃ b o, A = some ⟨b, o, none⟩ ∧ b < W.heap.size ∧ ∀ (j : Nat) (v : Value), (evCs u)[j]? = some v → W.cell? ⟨b, o + i * 28 + j, none⟩ = some v) len (fun i hi => by
    obtain ⟨b, o, cs, e, hb, hcl, hc, y, m, ht⟩ := h4 i hi
    obtain ⟨x, hx⟩ := ev_form hcl ht
    exact ⟨x, b, o, e, hb, by rw [hx]; exact hc⟩)
  exact ⟨A, us, cap, by rw [hl], recsAt_of evCs_len (by decide) hR, by omega⟩
end
section
open Go.ChangeShapes Go.WideShapes Go.ChangeAt Go.RowKit

theorem wf64 {z : Int} (h : (Lit.int .i64 z).wf = true) : Is64 z := by
  have h1 : IntKind.i64.min = -9223372036854775808 := rfl
  have h2 : IntKind.i64.max = 9223372036854775807 := rfl
  simp only [Lit.wf, h1, h2, Bool.and_eq_true, decide_eq_true_eq] at h
  exact h
theorem wf8 {z : Int} (h : (Lit.int .u8 z).wf = true) : 0 ≤ z ∧ z ≤ 255 := by
  have h1 : IntKind.u8.min = 0 := rfl
  have h2 : IntKind.u8.max = 255 := rfl
  simp only [Lit.wf, h1, h2, Bool.and_eq_true, decide_eq_true_eq] at h
  exact h
structure SrcWf (N : Nat) (s : SrcM) : Prop where
  kind : Is64 s.kind
  len : s.nodes.length ≤ N
  vs : ∀ v ∈ s.nodes, Is64 v
/-- the numbers are int64, the lists are no longer than N. -/
structure ActWf (N : Nat) (a : ActM) : Prop where
  kind : Is64 a.kind
  who : Is64 a.who
  n : Is64 a.n
  call : Is64 a.call
  other : Is64 a.other
  node : Is64 a.node
  slen : a.srcs.length ≤ N
  srcs : ∀ s ∈ a.srcs, SrcWf N s
  glen : a.groups.length ≤ N
  groups : ∀ v ∈ a.groups, Is64 v
structure EvWf (N : Nat) (e : EvM) : Prop where
  kind : Is64 e.kind
  tick : Is64 e.tick
  who : Is64 e.who
  call : Is64 e.call
  epoch : Is64 e.epoch
  n : Is64 e.n
  eterm : Is64 e.eterm
  ekind : Is64 e.ekind
  blen : e.ebody.length ≤ N
  ord : Is64 e.ord.unit ∧ Is64 e.ord.epoch ∧ Is64 e.ord.kind ∧ Is64 e.ord.incident ∧ Is64 e.ord.node
  sta : Is64 e.sta.unit ∧ Is64 e.sta.seq ∧ Is64 e.sta.state ∧ Is64 e.sta.node ∧ Is64 e.sta.epoch
  act : ActWf N e.act
  bytes : e.bytes.length ≤ N
theorem SrcWf.mono {N M : Nat} {s : SrcM} (h : SrcWf N s) (hN : N ≤ M) : SrcWf M s := ⟨h.kind, Nat.le_trans h.len hN, h.vs⟩
theorem ActWf.mono {N M : Nat} {a : ActM} (h : ActWf N a) (hN : N ≤ M) : ActWf M a := ⟨h.kind, h.who, h.n, h.call, h.other, h.node, Nat.le_trans h.slen hN, fun s hs => (h.srcs s hs).mono hN, Nat.le_trans h.glen hN, h.groups⟩
theorem EvWf.mono {N M : Nat} {e : EvM} (h : EvWf N e) (hN : N ≤ M) : EvWf M e := ⟨h.kind, h.tick, h.who, h.call, h.epoch, h.n, h.eterm, h.ekind, Nat.le_trans h.blen hN, h.ord, h.sta, h.act.mono hN, Nat.le_trans h.bytes hN⟩
theorem ActWf.l {N : Nat} {a : ActM} (h : ActWf N a) (hN : N ≤ 9223372036854775807) : ActL a := ⟨Nat.le_trans h.slen hN, fun s hs => Nat.le_trans (h.srcs s hs).len hN, Nat.le_trans h.glen hN⟩
theorem size_parts {a : ActM} {n : Nat} (h : actSize a.con ≤ n) : a.groups.length ≤ n ∧ a.srcs.length ≤ n ∧ ∀ s ∈ a.srcs, s.nodes.length ≤ n := by
  have e : actSize a.con = a.groups.length + ((a.srcs.map SrcM.con).map (fun s => s.nodes.length + 1)).sum := rfl
  rw [e, List.map_map] at h
  have h1 : ∀ l : List SrcM, l.length ≤ (l.map ((fun s : SrcC => s.nodes.length + 1) ∘ SrcM.con)).sum ∧ ∀ s ∈ l, s.nodes.length ≤ (l.map ((fun s : SrcC => s.nodes.length + 1) ∘ SrcM.con)).sum := by
    intro l
    induction l with
    | nil => exact ⟨Nat.zero_le _, fun s hs => by cases hs⟩
    | cons x r ih =>
      have hx : ((fun s : SrcC => s.nodes.length + 1) ∘ SrcM.con) x = x.nodes.length + 1 := rfl
      rw [List.map_cons, List.sum_cons, hx, List.length_cons]
      refine ⟨by have := ih.1; omega, fun s hs => ?_⟩
      rcases List.mem_cons.1 hs with rfl | hs
      · omega
      · have := ih.2 s hs
        omega
  have h2 := h1 a.srcs
  exact ⟨by omega, by have := h2.1; omega, fun s hs => by have := h2.2 s hs; omega⟩
theorem ActWf.r {N : Nat} {a : ActM} (h : ActWf N a) (hs : actSize a.con ≤ 100000) : ActR a.con := by
  obtain ⟨h1, h2, h3⟩ := size_parts hs
  refine ⟨h.kind, h.who, h.n, h.call, h.other, h.node, ?_, fun s hs => ?_, ?_, h.groups⟩
  · show (a.srcs.map SrcM.con).length ≤ _
    rw [List.length_map]
    omega
  · obtain ⟨x, hx, rfl⟩ := List.mem_map.1 hs
    exact ⟨(h.srcs x hx).kind, Nat.le_trans (h3 x hx) (by decide), (h.srcs x hx).vs⟩
  · show a.groups.length ≤ _
    omega
theorem EvWf.r {N : Nat} {e : EvM} (h : EvWf N e) (hs : actSize e.act.con ≤ 100000) (hb : e.ebody.length ≤ 100000) : EvR e.con :=
  ⟨h.kind, h.tick, h.who, h.call, h.epoch, h.n, h.eterm, h.ekind, Nat.le_trans hb (by decide), h.ord, h.sta, h.act.r hs⟩
section
variable {H : Type} {enc : TypeId × Value → H}
theorem bytes_of (zs : List Int) (h : ∀ z ∈ zs, 0 ≤ z ∧ z ≤ 255) : Lib.byteCells (zs.map (fun z => UInt8.ofNat z.toNat)) = zs.map (Value.int .u8) := by
  induction zs with
  | nil => rfl
  | cons z r ih =>
    have h1 := h z (by simp)
    have e : (((UInt8.ofNat z.toNat).toNat : Nat) : Int) = z := by
      rw [UInt8.toNat_ofNat_of_lt' (by show z.toNat < 256; omega)]
      omega
    show Value.int .u8 (((UInt8.ofNat z.toNat).toNat : Nat) : Int) :: Lib.byteCells (r.map (fun z => UInt8.ofNat z.toNat)) = _
    rw [e, ih (fun x hx => h x (by simp [hx]))]
    rfl
theorem bulk_one (d : DataW H) : 1 ≤ Rows.uptoBulk d := by
  cases d with
  | lit l => cases l <;> simp [Rows.uptoBulk]
  | nil => simp [Rows.uptoBulk]
  | ptr d => simp [Rows.uptoBulk]
  | slice elems spare => simp [Rows.uptoBulk]
  | agg parts => simp [Rows.uptoBulk]
  | iface t d => simp [Rows.uptoBulk]
  | map entries => simp [Rows.uptoBulk]
  | held h => simp [Rows.uptoBulk]
theorem bulk_length (l : List (DataW H)) : l.length ≤ Rows.uptoBulkAll l := by
  induction l with
  | nil => simp [Rows.uptoBulkAll]
  | cons x r ih =>
    have := bulk_one x
    simp only [Rows.uptoBulkAll, List.length_cons]
    omega
theorem bulk_in {d : DataW H} : ∀ {l : List (DataW H)}, d ∈ l → Rows.uptoBulk d ≤ Rows.uptoBulkAll l
  | x :: r, h => by
    simp only [Rows.uptoBulkAll]
    rcases List.mem_cons.1 h with rfl | h
    · omega
    · have := bulk_in h
      omega
theorem bulk_part {x : DataW H × List MemPlace} {xs : List (DataW H × List MemPlace)} {p : List MemPlace} (hx : x = (.agg (xs.map (·.1)), p)) {y : DataW H × List MemPlace} (hy : y ∈ xs) : Rows.uptoBulk y.1 ≤ Rows.uptoBulk x.1 := by
  subst hx
  have h := bulk_in (List.mem_map_of_mem (f := (·.1)) hy)
  simp only [Rows.uptoBulk]
  omega
theorem bulk_field {W : World} {t e : TypeId} {A : Option Addr} {n cap base fuel : Nat} {spare : Nat → Bool} {held : Bool} {x : DataW H × List MemPlace} (ht : Tryz.prog.underlying t = some (.slice e)) (hf : DataW.trod enc Tryz.prog W base spare held fuel t [.slice A n cap] = some x) : n ≤ Rows.uptoBulk x.1 := by
  rcases Go.Deep.open_slice ht hf with ⟨hcs, _⟩ | ⟨a, len, cap', m, n', D, Pl, hcs, _, _, _, _, hx, _⟩
  · simp at hcs
    omega
  · simp at hcs
    subst hx
    have h1 := bulk_length ((List.range len).map D)
    simp only [List.length_map, List.length_range] at h1
    simp only [Rows.uptoBulk]
    omega
/-- a slice of structs: each element's cells and its own reading, which is of no more bulk. -/
theorem recs_bulk {W : World} {t e : TypeId} {C : Nat} {v : Value} {x : DataW H × List MemPlace} {base fuel : Nat} {spare : Nat → Bool} {held : Bool}
    (ht : Tryz.prog.underlying t = some (.slice e)) (hC : Tryz.prog.cellsOf e = C) (hpos : 0 < C) (hf : DataW.trod enc Tryz.prog W base spare held fuel t [v] = some x) :
    ∃ (A : Option Addr) (n cap : Nat), v = .slice A n cap ∧ n ≤ cap ∧ cap ≤ 9223372036854775807 ∧ (A = none → cap = 0) ∧
      ∀ i, i < n → ∃ b o cs, A = some ⟨b, o, none⟩ ∧ b < W.heap.size ∧ cs.length = C ∧ (∀ (j : Nat) (u : Value), cs[j]? = some u → W.cell? ⟨b, o + i * C + j, none⟩ = some u) ∧ ∃ (y : DataW H × List MemPlace) (m : Nat), DataW.trod enc Tryz.prog W base spare held m e cs = some y ∧ Rows.uptoBulk y.1 ≤ Rows.uptoBulk x.1 := by
  subst hC
  rcases Go.Deep.open_slice ht hf with ⟨hcs, _⟩ | ⟨a, len, cap, m, n, D, Pl, hcs, hb, hl, hm, hmm, hx, hi⟩
  · simp at hcs
    subst hcs
    exact ⟨none, 0, 0, rfl, by omega, by omega, fun _ => rfl, fun i h => absurd h (by omega)⟩
  · simp at hcs
    subst hcs
    refine ⟨some a, len, cap, rfl, hl, by unfold maxLen at hm; omega, (fun h => by cases h), fun i hil => ?_⟩
    have hml : len ≤ m := by
      rw [hmm]
      split <;> omega
    obtain ⟨cs', hc, ht'⟩ := hi i (by omega)
    obtain ⟨_, hcl, hat⟩ := World.cells?_some hc
    obtain ⟨cs0, hc0, _⟩ := hi 0 (by omega)
    obtain ⟨_, hcl0, hat0⟩ := World.cells?_some hc0
    have h0 := hat0 0 hpos
    rw [List.getElem?_eq_getElem (by omega), Nat.zero_mul] at h0
    have hs0 : a.spot = none := by simpa [Addr.add] using World.cell?_spot h0
    have hlt : a.block < W.heap.size := by simpa [Addr.add] using World.block_lt_of_cell? W _ h0
    refine ⟨a.block, a.off, cs', by cases a; simp at hs0; simp [hs0], hlt, hcl, fun j u hj => ?_, _, _, ht', ?_⟩
    · have hjl : j < Tryz.prog.cellsOf e := by rw [← hcl]; exact (List.getElem?_eq_some_iff.1 hj).1
      have h1 := (hat j hjl).trans hj
      rw [Go.Deep.add_add] at h1
      have := add_at h1 hs0
      rw [Nat.add_assoc]
      exact this
    · have hd := bulk_in (l := (List.range len).map D) (List.mem_map.2 ⟨i, List.mem_range.2 hil, rfl⟩)
      rw [hx]
      simp only [Rows.uptoBulk]
      omega
theorem nodes_field {W : World} {v : Value} {x : DataW H × List MemPlace} {base fuel : Nat} {spare : Nat → Bool} {held : Bool} (hf : DataW.trod enc Tryz.prog W base spare held fuel 31 [v] = some x) :
    ∃ (A : Option Addr) (zs : List Int) (cap : Nat), v = .slice A zs.length cap ∧ IntsAt W W.heap.size A zs ∧ zs.length ≤ Rows.uptoBulk x.1 ∧ ∀ z ∈ zs, Is64 z := by
  obtain ⟨A, zs, cap, e, h1, h2, h3, h4, _⟩ := ints_field Tryz.underlying31 Tryz.underlying3 (by kernel_rfl) hf
  subst e
  exact ⟨A, zs, cap, rfl, h1, bulk_field Tryz.underlying31 hf, fun z hz => wf64 (h2 z hz)⟩
theorem bytes_field {W : World} {v : Value} {x : DataW H × List MemPlace} {base fuel : Nat} {spare : Nat → Bool} {held : Bool} (hf : DataW.trod enc Tryz.prog W base spare held fuel 23 [v] = some x) :
    ∃ (A : Option Addr) (l : List UInt8) (cap : Nat), v = .slice A l.length cap ∧ BytesAt W W.heap.size A l ∧ l.length ≤ Rows.uptoBulk x.1 := by
  obtain ⟨A, zs, cap, e, h1, h2, h3, h4, _⟩ := ints_field Tryz.underlying23 Tryz.underlying5 (by kernel_rfl) hf
  subst e
  refine ⟨A, zs.map (fun z => UInt8.ofNat z.toNat), cap, by rw [List.length_map], ?_, by rw [List.length_map]; exact bulk_field Tryz.underlying23 hf⟩
  unfold BytesAt
  rw [bytes_of zs (fun z hz => wf8 (h2 z hz))]
  exact h1
set_option maxRecDepth 100000 in
theorem src_open {W : World} {cs : List Value} {x : DataW H × List MemPlace} {base fuel : Nat} {spare : Nat → Bool} {held : Bool} (hl : cs.length = 2) (hf : DataW.trod enc Tryz.prog W base spare held fuel 80 cs = some x) : ∃ s : SrcM, srcCs s = cs ∧ IntsAt W W.heap.size s.nA s.nodes ∧ SrcWf (Rows.uptoBulk x.1) s := by
  match cs, hl with
  | [c0, c1], _ =>
    obtain ⟨xs, n, _, hx, _, hlen, hg⟩ := DataW.trod_struct Tryz.underlying80 hf
    match xs, hlen with
    | [y0, y1], _ =>
      obtain ⟨z0, e0, _, k0⟩ := DataW.trod_int Tryz.underlying3 (show DataW.trod enc Tryz.prog W base spare held _ 3 [c0] = some y0 from hg 0 _ rfl)
      obtain ⟨A1, l1, q1, e1, h1, n1, w1⟩ := nodes_field (show DataW.trod enc Tryz.prog W base spare held _ 31 [c1] = some y1 from hg 1 _ rfl)
      have b1 := bulk_part hx (y := y1) (by simp)
      simp at e0
      subst e0 e1
      exact ⟨⟨z0, A1, q1, l1⟩, rfl, h1, ⟨wf64 k0, Nat.le_trans n1 b1, w1⟩⟩
set_option maxRecDepth 100000 in
theorem srcs_field {W : World} {v : Value} {x : DataW H × List MemPlace} {base fuel : Nat} {spare : Nat → Bool} {held : Bool} (hf : DataW.trod enc Tryz.prog W base spare held fuel 30 [v] = some x) :
    ∃ (A : Option Addr) (us : List SrcM) (cap : Nat), v = .slice A us.length cap ∧ SrcsAt W W.heap.size A us ∧ us.length ≤ Rows.uptoBulk x.1 ∧ ∀ s ∈ us, SrcWf (Rows.uptoBulk x.1) s := by
  obtain ⟨A, n, cap, rfl, h1, h2, h3, h4⟩ := recs_bulk (C := 2) Tryz.underlying30 (by kernel_rfl) (by decide) hf
  have hbn := bulk_field Tryz.underlying30 hf
  obtain ⟨us, hl, hR⟩ := list_of (fun i u => (∃ b o, A = some ⟨b, o, none⟩ ∧ b < W.heap.size ∧ ∀ (j : Nat) (v : Value), (srcCs u)[j]? = some v → W.cell? ⟨b, o + i * 2 + j, none⟩ = some v) ∧ SrcWf (Rows.uptoBulk x.1) u ∧ IntsAt W W.heap.size u.nA u.nodes) n (fun i hi => by
    obtain ⟨b, o, cs, e, hb, hcl, hc, y, m, ht, hby⟩ := h4 i hi
    obtain ⟨s, es, hs, hw⟩ := src_open hcl ht
    exact ⟨s, ⟨b, o, e, hb, by rw [es]; exact hc⟩, hw.mono hby, hs⟩)
  refine ⟨A, us, cap, by rw [hl], ⟨recsAt_of srcCs_len (by decide) (fun i a ha => (hR i a ha).1), fun q hq => ?_⟩, by omega, fun q hq => ?_⟩
  · obtain ⟨i, hi⟩ := List.getElem?_of_mem hq
    exact (hR i q hi).2.2
  · obtain ⟨i, hi⟩ := List.getElem?_of_mem hq
    exact (hR i q hi).2.1
set_option maxRecDepth 100000 in
set_option maxHeartbeats 1000000 in
theorem act_open {W : World} {cs : List Value} {x : DataW H × List MemPlace} {base fuel : Nat} {spare : Nat → Bool} {held : Bool} (hl : cs.length = 8) (hf : DataW.trod enc Tryz.prog W base spare held fuel 33 cs = some x) : ∃ a : ActM, actCs a = cs ∧ ActAt W W.heap.size a ∧ ActWf (Rows.uptoBulk x.1) a := by
  match cs, hl with
  | [c0, c1, c2, c3, c4, c5, c6, c7], _ =>
    obtain ⟨xs, n, _, hx, _, hlen, hg⟩ := DataW.trod_struct Tryz.underlying33 hf
    match xs, hlen with
    | [y0, y1, y2, y3, y4, y5, y6, y7], _ =>
      obtain ⟨z0, e0, _, k0⟩ := DataW.trod_int Tryz.underlying3 (show DataW.trod enc Tryz.prog W base spare held _ 3 [c0] = some y0 from hg 0 _ rfl)
      obtain ⟨z1, e1, _, k1⟩ := DataW.trod_int Tryz.underlying3 (show DataW.trod enc Tryz.prog W base spare held _ 3 [c1] = some y1 from hg 1 _ rfl)
      obtain ⟨z2, e2, _, k2⟩ := DataW.trod_int Tryz.underlying2 (show DataW.trod enc Tryz.prog W base spare held _ 2 [c2] = some y2 from hg 2 _ rfl)
      obtain ⟨z3, e3, _, k3⟩ := DataW.trod_int Tryz.underlying2 (show DataW.trod enc Tryz.prog W base spare held _ 2 [c3] = some y3 from hg 3 _ rfl)
      obtain ⟨z4, e4, _, k4⟩ := DataW.trod_int Tryz.underlying2 (show DataW.trod enc Tryz.prog W base spare held _ 2 [c4] = some y4 from hg 4 _ rfl)
      obtain ⟨z5, e5, _, k5⟩ := DataW.trod_int Tryz.underlying3 (show DataW.trod enc Tryz.prog W base spare held _ 3 [c5] = some y5 from hg 5 _ rfl)
      obtain ⟨A6, l6, q6, e6, h6, n6, w6⟩ := srcs_field (show DataW.trod enc Tryz.prog W base spare held _ 30 [c6] = some y6 from hg 6 _ rfl)
      obtain ⟨A7, l7, q7, e7, h7, n7, w7⟩ := nodes_field (show DataW.trod enc Tryz.prog W base spare held _ 31 [c7] = some y7 from hg 7 _ rfl)
      simp at e0 e1 e2 e3 e4 e5
      subst e0 e1 e2 e3 e4 e5 e6 e7
      have b6 := bulk_part hx (y := y6) (by simp)
      have b7 := bulk_part hx (y := y7) (by simp)
      exact ⟨⟨z0, z1, z2, z3, z4, z5, A6, q6, l6, A7, q7, l7⟩, rfl, ⟨h6, h7⟩, ⟨wf64 k0, wf64 k1, wf64 k2, wf64 k3, wf64 k4, wf64 k5, Nat.le_trans n6 b6, fun s hs => (w6 s hs).mono b6, Nat.le_trans n7 b7, w7⟩⟩
set_option maxRecDepth 100000 in
set_option maxHeartbeats 2000000 in
theorem ev_open {W : World} {cs : List Value} {x : DataW H × List MemPlace} {base fuel : Nat} {spare : Nat → Bool} {held : Bool} (hl : cs.length = 28) (hf : DataW.trod enc Tryz.prog W base spare held fuel 35 cs = some x) : ∃ e : EvM, evCs e = cs ∧ EvAt W W.heap.size e ∧ EvWf (Rows.uptoBulk x.1) e := by
  match cs, hl with
  | [c0, c1, c2, c3, c4, c5, c6, c7, c8, c9, c10, c11, c12, c13, c14, c15, c16, c17, c18, c19, c20, c21, c22, c23, c24, c25, c26, c27], _ =>
    obtain ⟨xs, n, _, hx, _, hlen, hg⟩ := DataW.trod_struct Tryz.underlying35 hf
    match xs, hlen with
    | [y0, y1, y2, y3, y4, y5, y6, y7, y8, y9, y10], _ =>
      obtain ⟨z0, e0, _, k0⟩ := DataW.trod_int Tryz.underlying3 (show DataW.trod enc Tryz.prog W base spare held _ 3 [c0] = some y0 from hg 0 _ rfl)
      obtain ⟨z1, e1, _, k1⟩ := DataW.trod_int Tryz.underlying2 (show DataW.trod enc Tryz.prog W base spare held _ 2 [c1] = some y1 from hg 1 _ rfl)
      obtain ⟨z2, e2, _, k2⟩ := DataW.trod_int Tryz.underlying3 (show DataW.trod enc Tryz.prog W base spare held _ 3 [c2] = some y2 from hg 2 _ rfl)
      obtain ⟨z3, e3, _, k3⟩ := DataW.trod_int Tryz.underlying2 (show DataW.trod enc Tryz.prog W base spare held _ 2 [c3] = some y3 from hg 3 _ rfl)
      obtain ⟨z4, e4, _, k4⟩ := DataW.trod_int Tryz.underlying2 (show DataW.trod enc Tryz.prog W base spare held _ 2 [c4] = some y4 from hg 4 _ rfl)
      obtain ⟨z5, e5, _, k5⟩ := DataW.trod_int Tryz.underlying2 (show DataW.trod enc Tryz.prog W base spare held _ 2 [c5] = some y5 from hg 5 _ rfl)
      obtain ⟨xsE, nE, _, hxE, _, hlE, hgE⟩ := DataW.trod_struct Tryz.underlying25 (show DataW.trod enc Tryz.prog W base spare held _ 25 [c6, c7, c8] = some y6 from hg 6 _ rfl)
      match xsE, hlE with
      | [E0, E1, E2], _ =>
      obtain ⟨z6, e6, _, k6⟩ := DataW.trod_int Tryz.underlying2 (show DataW.trod enc Tryz.prog W base spare held _ 2 [c6] = some E0 from hgE 0 _ rfl)
      obtain ⟨z7, e7, _, k7⟩ := DataW.trod_int Tryz.underlying3 (show DataW.trod enc Tryz.prog W base spare held _ 3 [c7] = some E1 from hgE 1 _ rfl)
      obtain ⟨A8, l8, q8, e8, h8, n8⟩ := bytes_field (show DataW.trod enc Tryz.prog W base spare held _ 23 [c8] = some E2 from hgE 2 _ rfl)
      obtain ⟨xsO, nO, _, _, _, hlO, hgO⟩ := DataW.trod_struct Tryz.underlying27 (show DataW.trod enc Tryz.prog W base spare held _ 27 [c9, c10, c11, c12, c13] = some y7 from hg 7 _ rfl)
      match xsO, hlO with
      | [O0, O1, O2, O3, O4], _ =>
      obtain ⟨z9, e9, _, k9⟩ := DataW.trod_int Tryz.underlying3 (show DataW.trod enc Tryz.prog W base spare held _ 3 [c9] = some O0 from hgO 0 _ rfl)
      obtain ⟨z10, e10, _, k10⟩ := DataW.trod_int Tryz.underlying2 (show DataW.trod enc Tryz.prog W base spare held _ 2 [c10] = some O1 from hgO 1 _ rfl)
      obtain ⟨z11, e11, _, k11⟩ := DataW.trod_int Tryz.underlying3 (show DataW.trod enc Tryz.prog W base spare held _ 3 [c11] = some O2 from hgO 2 _ rfl)
      obtain ⟨z12, e12, _, k12⟩ := DataW.trod_int Tryz.underlying2 (show DataW.trod enc Tryz.prog W base spare held _ 2 [c12] = some O3 from hgO 3 _ rfl)
      obtain ⟨z13, e13, _, k13⟩ := DataW.trod_int Tryz.underlying3 (show DataW.trod enc Tryz.prog W base spare held _ 3 [c13] = some O4 from hgO 4 _ rfl)
      obtain ⟨xsS, nS, _, _, _, hlS, hgS⟩ := DataW.trod_struct Tryz.underlying29 (show DataW.trod enc Tryz.prog W base spare held _ 29 [c14, c15, c16, c17, c18] = some y8 from hg 8 _ rfl)
      match xsS, hlS with
      | [S0, S1, S2, S3, S4], _ =>
      obtain ⟨z14, e14, _, k14⟩ := DataW.trod_int Tryz.underlying3 (show DataW.trod enc Tryz.prog W base spare held _ 3 [c14] = some S0 from hgS 0 _ rfl)
      obtain ⟨z15, e15, _, k15⟩ := DataW.trod_int Tryz.underlying2 (show DataW.trod enc Tryz.prog W base spare held _ 2 [c15] = some S1 from hgS 1 _ rfl)
      obtain ⟨z16, e16, _, k16⟩ := DataW.trod_int Tryz.underlying3 (show DataW.trod enc Tryz.prog W base spare held _ 3 [c16] = some S2 from hgS 2 _ rfl)
      obtain ⟨z17, e17, _, k17⟩ := DataW.trod_int Tryz.underlying3 (show DataW.trod enc Tryz.prog W base spare held _ 3 [c17] = some S3 from hgS 3 _ rfl)
      obtain ⟨z18, e18, _, k18⟩ := DataW.trod_int Tryz.underlying2 (show DataW.trod enc Tryz.prog W base spare held _ 2 [c18] = some S4 from hgS 4 _ rfl)
      obtain ⟨a, ea, ha, wa⟩ := act_open rfl (show DataW.trod enc Tryz.prog W base spare held _ 33 [c19, c20, c21, c22, c23, c24, c25, c26] = some y9 from hg 9 _ rfl)
      obtain ⟨A27, l27, q27, e27, h27, n27⟩ := bytes_field (show DataW.trod enc Tryz.prog W base spare held _ 23 [c27] = some y10 from hg 10 _ rfl)
      simp at e0 e1 e2 e3 e4 e5 e6 e7 e9 e10 e11 e12 e13 e14 e15 e16 e17 e18
      subst e0 e1 e2 e3 e4 e5 e6 e7 e8 e9 e10 e11 e12 e13 e14 e15 e16 e17 e18 e27
      have b6 := bulk_part hx (y := y6) (by simp)
      have b8 := Nat.le_trans (bulk_part hxE (y := E2) (by simp)) b6
      have b9 := bulk_part hx (y := y9) (by simp)
      have b27 := bulk_part hx (y := y10) (by simp)
      refine ⟨⟨z0, z1, z2, z3, z4, z5, z6, z7, A8, q8, l8, ⟨z9, z10, z11, z12, z13⟩, ⟨z14, z15, z16, z17, z18⟩, a, A27, q27, l27⟩, ?_, ⟨h8, ha, h27⟩, ⟨wf64 k0, wf64 k1, wf64 k2, wf64 k3, wf64 k4, wf64 k5, wf64 k6, wf64 k7, Nat.le_trans n8 b8, ⟨wf64 k9, wf64 k10, wf64 k11, wf64 k12, wf64 k13⟩, ⟨wf64 k14, wf64 k15, wf64 k16, wf64 k17, wf64 k18⟩, wa.mono b9, Nat.le_trans n27 b27⟩⟩
      unfold actCs at ea
      injection ea with a0 ea
      injection ea with a1 ea
      injection ea with a2 ea
      injection ea with a3 ea
      injection ea with a4 ea
      injection ea with a5 ea
      injection ea with a6 ea
      injection ea with a7 ea
      subst a0 a1 a2 a3 a4 a5 a6 a7
      rfl
set_option maxRecDepth 100000 in
theorem open_act {W : World} {r : _} {b0 : Nat} {v : Value} {d : DataW H} {p : List MemPlace} {base : Nat} {spare : Nat → Bool} {held : Bool}
    (hv : Value.okWide Tryz.prog W r b0 33 v) (h : DataW.Trod enc Tryz.prog W base spare held 33 v d p) : ∃ a : ActM, v = actV a ∧ ActAt W W.heap.size a ∧ ActWf (Rows.uptoBulk d) a := by
  obtain ⟨cs, rfl, hsz⟩ := okWide_struct Tryz.underlying33 hv
  have hC : Tryz.prog.cellsOf 33 = 8 := by kernel_rfl
  obtain ⟨fuel, hf⟩ := h
  obtain ⟨a, e, h1, h2⟩ := act_open (cs := cs.toList) (by rw [Array.length_toList, hsz, hC]) (by simpa [Value.cells] using hf)
  refine ⟨a, ?_, h1, h2⟩
  have e2 : cs = (actCs a).toArray := by rw [e]
  rw [e2]
  rfl
set_option maxRecDepth 100000 in
theorem open_ev {W : World} {r : _} {b0 : Nat} {v : Value} {d : DataW H} {p : List MemPlace} {base : Nat} {spare : Nat → Bool} {held : Bool}
    (hv : Value.okWide Tryz.prog W r b0 35 v) (h : DataW.Trod enc Tryz.prog W base spare held 35 v d p) : ∃ a : EvM, v = evV a ∧ EvAt W W.heap.size a ∧ EvWf (Rows.uptoBulk d) a := by
  obtain ⟨cs, rfl, hsz⟩ := okWide_struct Tryz.underlying35 hv
  have hC : Tryz.prog.cellsOf 35 = 28 := by kernel_rfl
  obtain ⟨fuel, hf⟩ := h
  obtain ⟨a, e, h1, h2⟩ := ev_open (cs := cs.toList) (by rw [Array.length_toList, hsz, hC]) (by simpa [Value.cells] using hf)
  refine ⟨a, ?_, h1, h2⟩
  have e2 : cs = (evCs a).toArray := by rw [e]
  rw [e2]
  rfl
end
end
section
open Go.RowKit Go.Maps
open Go.Lib (itoa)

theorem one_sl (w : World) (v : Int) (t : TypeId) : Sl (w.alloc (.cells #[.int .i64 v] t)) (w.alloc (.cells #[.int .i64 v] t)).heap.size (some ⟨w.heap.size, 0, none⟩) ([v].map (Value.int .i64)) := Sl.lit w _ t rfl
theorem listW_take {l : List Int} {k : Nat} {x : Int} (h : l[k]? = some x) : spW (itoa l.length :: (l.take (k + 1)).map itoa) = spW (itoa l.length :: (l.take k).map itoa) ++ spW [itoa x] := by
  rw [take_snoc h, List.map_append, ← List.cons_append, spW_app]
  rfl
theorem spW_list_le {l : List Int} (h : ∀ v ∈ l, Is64 v) (hl : l.length ≤ 1000000) (k : Nat) : (spW (itoa l.length :: (l.take k).map itoa)).length ≤ 22000100 := by
  have h1 := spW_len (ints_len (l := l.take k) (fun v hv => h v (List.mem_of_mem_take hv)))
  have h2 : ((l.take k).map itoa).length ≤ 1000000 := by rw [List.length_map, List.length_take]; omega
  have h3 : (itoa (l.length : Int)).length ≤ 21 := itoa_len (by unfold Is64; omega)
  have e : spW (itoa l.length :: (l.take k).map itoa) = 32 :: itoa l.length ++ spW ((l.take k).map itoa) := rfl
  rw [e, List.length_append, List.length_cons]
  have := Nat.le_trans h1 (Nat.mul_le_mul h2 (Nat.le_refl 22))
  omega
set_option maxRecDepth 100000 in
set_option maxHeartbeats 2000000 in
theorem list51_any (l : List Int) (h : ∀ v ∈ l, Is64 v) (hl : l.length ≤ 1000000) (A : Option Addr) (c : Nat) (w : World) (hat : Sl w w.heap.size A (l.map (Value.int .i64))) :
    Calls Tryz.prog 48 #[.slice A l.length c] w fun e w' => e = .returned (.string (bs (spW (listW l)))) ∧ Below w.heap.size w w' := by
  have HA := Lib.hid (And.intro h (And.intro hat hl))
  obtain ⟨m, hm⟩ : ∃ m, m = l.length := ⟨_, rfl⟩
  have HM := Lib.hid hm
  have hml : m ≤ 1000000 := by omega
  have HN0 := Lib.hid (nums51_any [(m : Int)] (by intro v hv; rw [List.mem_singleton.1 hv]; unfold Is64; omega) (by simp) (some ⟨w.heap.size, 0, none⟩) 1 (w.alloc (.cells #[.int .i64 m] 2)) (one_sl w m _))
  have HB0 := Lib.hid (below_new w (.cells #[.int .i64 m] 2))
  rw [← hm]
  clear h hat hl hm
  go_enter Tryz.func48, Tryz.ntmps48
  go_wp2_with fail
  refine HN0.out.mono ?_
  rintro e w1 ⟨rfl, hb1⟩
  have HB1 := Lib.hid (HB0.out.trans (hb1.mono HB0.out.size))
  clear hb1
  go_wp2_with fail
  go_loopw [3, 4] (fun sv iv X => ∃ k : Nat, k ≤ m ∧ iv = .int .i64 k ∧ sv = .string (bs (spW (itoa l.length :: (l.take k).map itoa))) ∧ Below w.heap.size w X) (fun _ iv _ => m - (intOf iv).toNat)
  case atStart => exact ⟨0, Nat.zero_le _, rfl, by rw [HM.out]; rfl, HB1.out⟩
  case round =>
    obtain ⟨k, hk, rfl, rfl, hb⟩ := hrel
    have HB := Lib.hid hb
    by_cases hlt : k < m
    · have hlt' : (k : Int) < (m : Int) := by omega
      obtain ⟨x, hx⟩ : ∃ x, l[k]? = some x := ⟨l[k]'(by have := HM.out; omega), by simp⟩
      have hx64 := HA.out.1 x (List.mem_of_getElem? hx)
      obtain ⟨ab, ao, rfl, hab, hac⟩ := (Sl.below HA.out.2.1 hb) k (.int .i64 x) (by rw [List.getElem?_map, hx]; rfl)
      have HX := Lib.hid hx
      have HN := Lib.hid (nums51_any [x] (by intro v hv; rw [List.mem_singleton.1 hv]; exact hx64) (by simp) (some ⟨wr.heap.size, 0, none⟩) 1 (wr.alloc (.cells #[.int .i64 x] 2)) (one_sl wr x _))
      have HL : Hid ((bs (spW (itoa l.length :: (l.take k).map itoa))).size ≤ 22000100) := Lib.hid (by rw [bs_size]; exact spW_list_le HA.out.1 HA.out.2.2 k)
      obtain ⟨S, hS⟩ : ∃ S, S = bs (spW (itoa l.length :: (l.take k).map itoa)) := ⟨_, rfl⟩
      have HS := Lib.hid hS
      rw [← hS] at HL ⊢
      have hSl := HL.out
      obtain ⟨T, hT⟩ : ∃ T, T = bs (spW ([x].map itoa)) := ⟨_, rfl⟩
      have HT := Lib.hid hT
      have hTl : T.size ≤ 22 := by
        rw [hT, bs_size]
        have := itoa_len hx64
        show (32 :: itoa x ++ []).length ≤ 22
        simp
        omega
      rw [← hT] at HN
      have HBN := Lib.hid (below_new wr (.cells #[.int .i64 x] 2))
      clear hx hb hx64 hS hT
      go_wp2_with fail
      refine HN.out.mono ?_
      rintro e w1 ⟨rfl, hb1⟩
      have HB1 := Lib.hid (HB.out.trans ((HBN.out.trans (hb1.mono HBN.out.size)).mono HB.out.size))
      clear hb1
      go_wp2_with fail
      go_roundw
      case rel =>
        refine ⟨k + 1, by omega, by go_num, ?_, HB1.out⟩
        rw [listW_take HX.out, HS.out, HT.out, bs_append]
        rfl
      case measure => simp [intOf]; omega
    · obtain rfl : k = m := by omega
      have e : l.take k = l := List.take_of_length_le (by have := HM.out; omega)
      rw [e]
      clear e hb
      go_wp2_with fail
      go_ret
      exact ⟨rfl, HB.out⟩
end
section
open Go.RowKit Go.Maps

set_option maxRecDepth 100000 in
set_option maxHeartbeats 4000000 in
theorem rightAct_any (a : ActM) (w : World) (hat : ActAt w w.heap.size a) (hl : ActL a) : Calls Tryz.prog 46 #[actV a] w fun e w' => e = .returned (.bool (tb (ActOk a.con))) ∧ Below w.heap.size w w' := by
  obtain ⟨L, hL⟩ : ∃ L, L = actCs a := ⟨_, rfl⟩
  have hv : actV a = .agg L.toArray := by rw [hL]; rfl
  have HSZ := Lib.hid (show (Tryz.prog.info? 33).map (·.size) = some L.length by rw [hL]; kernel_rfl)
  have hk0 : L[0]? = some (.int .i64 a.kind) := by rw [hL]; rfl
  obtain ⟨W1, hW1⟩ : ∃ W1, W1 = (w.alloc (.cells L.toArray 33)) := ⟨_, rfl⟩
  have hb1 : Below w.heap.size w W1 := by rw [hW1]; exact below_new _ _
  have hlt1 : w.heap.size < W1.heap.size := by rw [hW1]; simp
  have hrow : W1.rangeAt w.heap.size 0 L := fun j v hj => by
    have h := new_obj w (.cells L.toArray 33)
    rw [hW1, Lib.cell_of_heap h]
    simpa using hj
  have HRG := Lib.hid (show ∀ w' : World, Below W1.heap.size W1 w' → w'.rangeAt w.heap.size 0 L from fun w' hb j v hj => (hb.cell (p := ⟨w.heap.size, 0 + j, none⟩) hlt1).trans (hrow j v hj))
  have HB1 := Lib.hid (And.intro hb1 (And.intro hat hl))
  have HAW := Lib.hid (fun X : World => actWord_any a.kind X)
  have HOA := Lib.hid (fun (X : World) (hb : Below W1.heap.size W1 X) => onlyAct_any a X w.heap.size (hat.below ((hb1.trans (hb.mono hb1.size)))) (Nat.le_trans hb1.size hb.size) hl)
  have HSA := Lib.hid (fun (X : World) (hb : Below W1.heap.size W1 X) (a' : ActM) (B : Nat) (h : ActAt X B a') (hB : B ≤ X.heap.size) => sameAct_any a a' X w.heap.size B (hat.below ((hb1.trans (hb.mono hb1.size)))) h (Nat.le_trans hb1.size hb.size) hB hl.ns hl.nn hl.ng)
  rw [hv] at HOA HSA ⊢
  obtain ⟨kk, hkk⟩ : ∃ kk, kk = a.kind := ⟨_, rfl⟩
  rw [← hkk] at hk0 HAW
  have HOK := Lib.hid (show ActOk a.con ↔ actN kk ≠ [] ∧ a.con = onlyA a.con by rw [hkk]; exact onlyA_iff)
  have HHD := Lib.hid (show Below W1.heap.size W1 W1.drew from below_dr (Below.refl _ _) 1)
  have HC0 := Lib.hid (show ∀ w' : World, Below W1.heap.size W1 w' → w'.cell? ⟨w.heap.size, 0, none⟩ = some (.int .i64 kk) from fun w' hb => HRG.out w' hb 0 _ hk0)
  obtain ⟨nm, hnm⟩ : ∃ nm, nm = actN kk := ⟨_, rfl⟩
  rw [← hnm] at HAW HOK
  clear hL hv hk0 hb1 hlt1 hrow hat hl hkk hnm
  go_enter Tryz.func46, Tryz.ntmps46
  go_wp2_with fail
  rw [← hW1]
  clear hW1
  by_cases hne : nm = []
  · have hnn : (bs nm).toList = [] := by rw [ByteArray.toList_eq, bs_data]; exact hne
    have HF : Hid (¬ ActOk a.con) := Lib.hid (fun h => (HOK.out.1 h).1 hne)
    clear hne
    refine wp_region_held_drew (S := fun W' => Below W1.heap.size W1 W') (by kernel_rfl) HHD.out (fun hHeld => ?_)
    refine wpAnyH_take (i := 0) (v := .pointer (some ⟨w.heap.size, 0, none⟩)) rfl (by kernel_rfl) (by kernel_rfl) (by kernel_rfl) (fun _ _ _ h => h) (Or.inl ⟨by rfl, ?_⟩) (by assumption) ?_
    · intro w hSw
      go_simp
    show wpAnyH _ _ _ _ _ _ _ (Act.put _ (some 3) _) _
    simp only [Act.put, List.setIfInBounds_toArray, List.set_cons_zero, List.set_cons_succ]
    refine wpAnyH_take (i := 1) (v := .int .i64 kk) rfl (by kernel_rfl) (by kernel_rfl) (by kernel_rfl) (fun _ _ _ h => h) (Or.inl ⟨by rfl, ?_⟩) (by assumption) ?_
    · intro w hSw
      have hc := HC0.out w hSw
      go_simp
    show wpAnyH _ _ _ _ _ _ _ (Act.put _ (some 4) _) _
    simp only [Act.put, List.setIfInBounds_toArray, List.set_cons_zero, List.set_cons_succ]
    refine wpAnyH_ready (rs := [2]) (by kernel_rfl) (by simp) ?_
    refine AllReadyH.cons rfl (fun K hK => ?_) AllReadyH.nil
    go_simp
    refine (HAW.out _).mono ?_
    rintro e X1 ⟨rfl, hx1⟩
    go_simp
    refine hK.out _ _ (hHeld.trans (hx1.mono hHeld.size)) (fun hHeld => ?_)
    clear hK K
    have hX1 := hHeld
    clear hx1
    refine wpAnyH_take (i := 3) (v := .bool false) rfl (by kernel_rfl) (by kernel_rfl) (by kernel_rfl) (fun _ _ _ h => h) (Or.inl ⟨by rfl, ?_⟩) (by assumption) ?_
    · intro w hSw
      go_simp
    show wpAnyH _ _ _ _ _ _ _ (Act.put _ (some 6) _) _
    simp only [Act.put, List.setIfInBounds_toArray, List.set_cons_zero, List.set_cons_succ]
    refine wpAnyH_take (i := 4) (v := .bool false) rfl (by kernel_rfl) (by kernel_rfl) (by kernel_rfl) (fun _ _ _ h => h) (Or.inl ⟨by rfl, ?_⟩) (by assumption) ?_
    · intro w hSw
      go_simp
    show wpAnyH _ _ _ _ _ _ _ (Act.put _ (some 7) _) _
    simp only [Act.put, List.setIfInBounds_toArray, List.set_cons_zero, List.set_cons_succ]
    refine wpAnyH_take (i := 5) (v := undef) rfl (by kernel_rfl) (by kernel_rfl) (by kernel_rfl) (fun _ _ _ h => h) (Or.inr ⟨by rfl, rfl⟩) (by assumption) ?_
    show wpAnyH _ _ _ _ _ _ _ (Act.put _ (some 8) _) _
    simp only [Act.put, List.setIfInBounds_toArray, List.set_cons_zero, List.set_cons_succ]
    refine wpAnyH_take (i := 6) (v := undef) rfl (by kernel_rfl) (by kernel_rfl) (by kernel_rfl) (fun _ _ _ h => h) (Or.inr ⟨by rfl, rfl⟩) (by assumption) ?_
    show wpAnyH _ _ _ _ _ _ _ (Act.put _ (some 9) _) _
    simp only [Act.put, List.setIfInBounds_toArray, List.set_cons_zero, List.set_cons_succ]
    refine wpAnyH_take (i := 7) (v := undef) rfl (by kernel_rfl) (by kernel_rfl) (by kernel_rfl) (fun _ _ _ h => h) (Or.inr ⟨by rfl, rfl⟩) (by assumption) ?_
    show wpAnyH _ _ _ _ _ _ _ (Act.put _ (some 10) _) _
    simp only [Act.put, List.setIfInBounds_toArray, List.set_cons_zero, List.set_cons_succ]
    refine wpAnyH_take (i := 8) (v := undef) rfl (by kernel_rfl) (by kernel_rfl) (by kernel_rfl) (fun _ _ _ h => h) (Or.inr ⟨by rfl, rfl⟩) (by assumption) ?_
    show wpAnyH _ _ _ _ _ _ _ (Act.put _ (some 11) _) _
    simp only [Act.put, List.setIfInBounds_toArray, List.set_cons_zero, List.set_cons_succ]
    refine wpAnyH_take (i := 9) (v := .bool false) rfl (by kernel_rfl) (by kernel_rfl) (by kernel_rfl) (fun _ _ _ h => h) (Or.inl ⟨by rfl, ?_⟩) (by assumption) ?_
    · intro w hSw
      go_simp
    show wpAnyH _ _ _ _ _ _ _ (Act.put _ (some 12) _) _
    simp only [Act.put, List.setIfInBounds_toArray, List.set_cons_zero, List.set_cons_succ]
    refine wpAnyH_take (i := 10) (v := .bool false) rfl (by kernel_rfl) (by kernel_rfl) (by kernel_rfl) (fun _ _ _ h => h) (Or.inl ⟨by rfl, ?_⟩) (by assumption) ?_
    · intro w hSw
      go_simp
    show wpAnyH _ _ _ _ _ _ _ (Act.put _ (some 2) _) _
    simp only [Act.put, List.setIfInBounds_toArray, List.set_cons_zero, List.set_cons_succ]
    refine wpAnyH_done (by kernel_rfl) ?_ _
    go_wp2_with fail
    go_ret
    exact ⟨ret_no HF.out, HB1.out.1.trans (hX1.mono HB1.out.1.size)⟩
  have hnn : ¬ (bs nm).toList = [] := by rw [ByteArray.toList_eq, bs_data]; exact hne
  have HNE := Lib.hid hne
  clear hne
  refine wp_region_held_drew (S := fun W' => Below W1.heap.size W1 W') (by kernel_rfl) HHD.out (fun hHeld => ?_)
  refine wpAnyH_take (i := 0) (v := .pointer (some ⟨w.heap.size, 0, none⟩)) rfl (by kernel_rfl) (by kernel_rfl) (by kernel_rfl) (fun _ _ _ h => h) (Or.inl ⟨by rfl, ?_⟩) (by assumption) ?_
  · intro w hSw
    go_simp
  show wpAnyH _ _ _ _ _ _ _ (Act.put _ (some 3) _) _
  simp only [Act.put, List.setIfInBounds_toArray, List.set_cons_zero, List.set_cons_succ]
  refine wpAnyH_take (i := 1) (v := .int .i64 kk) rfl (by kernel_rfl) (by kernel_rfl) (by kernel_rfl) (fun _ _ _ h => h) (Or.inl ⟨by rfl, ?_⟩) (by assumption) ?_
  · intro w hSw
    have hc := HC0.out w hSw
    go_simp
  show wpAnyH _ _ _ _ _ _ _ (Act.put _ (some 4) _) _
  simp only [Act.put, List.setIfInBounds_toArray, List.set_cons_zero, List.set_cons_succ]
  refine wpAnyH_ready (rs := [2]) (by kernel_rfl) (by simp) ?_
  refine AllReadyH.cons rfl (fun K hK => ?_) AllReadyH.nil
  go_simp
  refine (HAW.out _).mono ?_
  rintro e X1 ⟨rfl, hx1⟩
  go_simp
  refine hK.out _ _ (hHeld.trans (hx1.mono hHeld.size)) (fun hHeld => ?_)
  clear hK K
  have hX1 := hHeld
  clear hx1
  refine wpAnyH_take (i := 3) (v := .bool true) rfl (by kernel_rfl) (by kernel_rfl) (by kernel_rfl) (fun _ _ _ h => h) (Or.inl ⟨by rfl, ?_⟩) (by assumption) ?_
  · intro w hSw
    go_simp
  show wpAnyH _ _ _ _ _ _ _ (Act.put _ (some 6) _) _
  simp only [Act.put, List.setIfInBounds_toArray, List.set_cons_zero, List.set_cons_succ]
  refine wpAnyH_take (i := 4) (v := .bool true) rfl (by kernel_rfl) (by kernel_rfl) (by kernel_rfl) (fun _ _ _ h => h) (Or.inl ⟨by rfl, ?_⟩) (by assumption) ?_
  · intro w hSw
    go_simp
  show wpAnyH _ _ _ _ _ _ _ (Act.put _ (some 7) _) _
  simp only [Act.put, List.setIfInBounds_toArray, List.set_cons_zero, List.set_cons_succ]
  refine wpAnyH_take (i := 5) (v := .agg L.toArray) rfl (by kernel_rfl) (by kernel_rfl) (by kernel_rfl) (fun _ _ _ h => h) (yieldsIf_load_mid (by rfl) 33 (.tmp 1) rfl w.heap.size 0 rfl L _ (fun w' hSw => HRG.out w' hSw) Tryz.underlying33 rfl HSZ.out) (by assumption) ?_
  show wpAnyH _ _ _ _ _ _ _ (Act.put _ (some 8) _) _
  simp only [Act.put, List.setIfInBounds_toArray, List.set_cons_zero, List.set_cons_succ]
  refine wpAnyH_take (i := 6) (v := .agg L.toArray) rfl (by kernel_rfl) (by kernel_rfl) (by kernel_rfl) (fun _ _ _ h => h) (yieldsIf_load_mid (by rfl) 33 (.tmp 1) rfl w.heap.size 0 rfl L _ (fun w' hSw => HRG.out w' hSw) Tryz.underlying33 rfl HSZ.out) (by assumption) ?_
  show wpAnyH _ _ _ _ _ _ _ (Act.put _ (some 9) _) _
  simp only [Act.put, List.setIfInBounds_toArray, List.set_cons_zero, List.set_cons_succ]
  refine wpAnyH_ready (rs := [7]) (by kernel_rfl) (by simp) ?_
  refine AllReadyH.cons rfl (fun K hK => ?_) AllReadyH.nil
  go_simp
  refine (HOA.out _ (by assumption)).mono ?_
  rintro e X2 ⟨a', rfl, hcon, hat', hl', hx2⟩
  have HA' := Lib.hid (And.intro hcon (And.intro hat' hl'))
  clear hcon hat' hl'
  go_simp
  refine hK.out _ _ (hX1.trans (hx2.mono hX1.size)) (fun hHeld => ?_)
  clear hK K
  have hX2 := hHeld
  clear hx2
  refine wpAnyH_ready (rs := [8]) (by kernel_rfl) (by simp) ?_
  refine AllReadyH.cons rfl (fun K hK => ?_) AllReadyH.nil
  go_simp
  refine (HSA.out _ (by assumption) a' _ HA'.out.2.1 (Nat.le_trans HB1.out.1.size hX2.size)).mono ?_
  rintro e X3 ⟨rfl, hx3⟩
  go_simp
  refine hK.out _ _ (hX2.trans (hx3.mono hX2.size)) (fun hHeld => ?_)
  clear hK K
  have hX3 := hHeld
  clear hx3
  refine wpAnyH_take (i := 9) (v := .bool (tb (a.con = a'.con))) rfl (by kernel_rfl) (by kernel_rfl) (by kernel_rfl) (fun _ _ _ h => h) (Or.inl ⟨by rfl, ?_⟩) (by assumption) ?_
  · intro w hSw
    go_simp
  show wpAnyH _ _ _ _ _ _ _ (Act.put _ (some 12) _) _
  simp only [Act.put, List.setIfInBounds_toArray, List.set_cons_zero, List.set_cons_succ]
  refine wpAnyH_take (i := 10) (v := .bool (tb (a.con = a'.con))) rfl (by kernel_rfl) (by kernel_rfl) (by kernel_rfl) (fun _ _ _ h => h) (Or.inl ⟨by rfl, ?_⟩) (by assumption) ?_
  · intro w hSw
    go_simp
  show wpAnyH _ _ _ _ _ _ _ (Act.put _ (some 2) _) _
  simp only [Act.put, List.setIfInBounds_toArray, List.set_cons_zero, List.set_cons_succ]
  refine wpAnyH_done (by kernel_rfl) ?_ _
  go_wp2_with fail
  go_ret
  refine ⟨?_, HB1.out.1.trans (hX3.mono HB1.out.1.size)⟩
  rw [tb_iff HOK.out, HA'.out.1, tb_iff (show (nm ≠ [] ∧ a.con = onlyA a.con) ↔ a.con = onlyA a.con from ⟨fun h => h.2, fun h => ⟨HNE.out, h⟩⟩)]
  rfl
end
section
open Go.RowKit Go.Maps
open Go.Lib (itoa)

set_option maxRecDepth 100000 in
set_option maxHeartbeats 4000000 in
theorem act51_2 (a : ActM) (w : World) (hat : ActAt w w.heap.size a) (hl : ActL a) (hR : ActR a.con) (hsz0 : actSize a.con ≤ 100000) (hk : a.kind = 2) (hok : ActOk a.con) : Calls Tryz.prog 18 #[actV a] w fun e w' => FmtR (ActOk a.con) (actT a.con) e ∧ Below w.heap.size w w' := by
  obtain ⟨C, hC⟩ : ∃ C, C = (actCs a).toArray := ⟨_, rfl⟩
  have hv : actV a = .agg C := by rw [hC]; rfl
  have hsz : (Tryz.prog.info? 33).map (·.size) = some C.size := by rw [hC]; kernel_rfl
  obtain ⟨W1, hW1⟩ : ∃ W1, W1 = (w.alloc (.cells C 33)) := ⟨_, rfl⟩
  have hrow := new_obj w (.cells C 33)
  have hb1 : Below w.heap.size w W1 := by rw [hW1]; exact below_new _ _
  have hlt1 : w.heap.size < W1.heap.size := by rw [hW1]; simp
  have HC := Lib.hid (show ∀ (j : Nat) (u : Value), (actCs a)[j]? = some u → ∀ X : World, Below W1.heap.size W1 X → X.cell? ⟨w.heap.size, j, none⟩ = some u from fun j u hj X hb => by
    refine (hb.cell (p := ⟨w.heap.size, j, none⟩) hlt1).trans ?_
    rw [hW1, Lib.cell_of_heap hrow, hC]
    simpa using hj)
  have HRA := Lib.hid (rightAct_any a W1 (hat.next hb1) hl)
  rw [tb_true hok] at HRA
  have HAW := Lib.hid (fun X : World => actWord_any 2 X)
  have HOK := Lib.hid hok
  have HB1 := Lib.hid (And.intro hb1 (And.intro hat (And.intro hR hsz0)))
  rw [hv] at HRA ⊢
  have HP0 := Lib.hid (HC.out 0 (.int .i64 2) (by rw [← hk]; rfl))
  have HP1 := Lib.hid (HC.out 1 (.int .i64 a.who) rfl)
  have HP3 := Lib.hid (HC.out 3 (.int .i64 a.call) rfl)
  have HP2 := Lib.hid (HC.out 2 (.int .i64 a.n) rfl)
  have HK := Lib.hid hk
  clear hC hv hb1 hlt1 HC hok hat hl hR hsz0 hk
  go_enter Tryz.func18, Tryz.ntmps18
  go_wp2_with (refine wpList_load_row_g (by rfl) 33 (.tmp 1) rfl w.heap.size rfl 33 C (0, 0) _ hrow Tryz.underlying33 rfl hsz ?_)
  rw [← hW1]
  clear hrow hW1
  refine HRA.out.mono ?_
  rintro e X1 ⟨rfl, hb⟩
  have HX1 := Lib.hid hb
  have hp0 := HP0.out X1 hb
  clear hb HRA
  go_wp2_with fail
  refine (HAW.out X1).mono ?_
  rintro e X2 ⟨rfl, hb⟩
  have HX2 := Lib.hid (HX1.out.trans (hb.mono HX1.out.size))
  clear hb hp0 HAW
  have hp0 := HP0.out X2 HX2.out
  have hp1 := HP1.out X2 HX2.out
  have hp3 := HP3.out X2 HX2.out
  have hp2 := HP2.out X2 HX2.out
  obtain ⟨S, hS⟩ : ∃ S, S = bs (actN 2) := ⟨_, rfl⟩
  have HS := Lib.hid hS
  have hSl : S.size ≤ 20 := by rw [hS]; decide
  rw [← hS]
  clear hS
  have HNS := Lib.hid (nums51_any [a.call, a.n] (fun v hv => by
    simp only [List.mem_cons, List.mem_nil_iff, or_false] at hv
    rcases hv with rfl | rfl
    · exact HB1.out.2.2.1.call
    · exact HB1.out.2.2.1.n
    ) (by simp) (some ⟨X2.heap.size, 0, none⟩) 2 (X2.alloc (.cells #[.int .i64 a.call, .int .i64 a.n] 2)) (Sl.lit X2 _ 2 rfl))
  obtain ⟨T, hT⟩ : ∃ T, T = bs (spW (([a.call, a.n] : List Int).map itoa)) := ⟨_, rfl⟩
  have HT := Lib.hid hT
  have hTl : T.size ≤ 70 := by
    have h := spW_len (ints_len (l := [a.call, a.n]) (fun v hv => by
    simp only [List.mem_cons, List.mem_nil_iff, or_false] at hv
    rcases hv with rfl | rfl
    · exact HB1.out.2.2.1.call
    · exact HB1.out.2.2.1.n
    ))
    rw [hT, bs_size]
    exact Nat.le_trans h (by simp)
  have HB3 := Lib.hid (below_new X2 (.cells #[.int .i64 a.call, .int .i64 a.n] 2))
  rw [← hT] at HNS
  have HE : Hid (S ++ T = bs (actT a.con)) := Lib.hid (by
    rw [HS.out, HT.out, bs_append]
    unfold actT actW
    rw [show a.con.kind = 2 from HK.out, spW_line]
    rfl)
  have HSZ : Hid (S.size + T.size = (actT a.con).length) := Lib.hid (by rw [← bs_size, ← HE.out, ByteArray.size_append])
  clear hT
  go_wp2_with fail
  refine HNS.out.mono ?_
  rintro e X3 ⟨rfl, hb⟩
  have HBX := Lib.hid (HB1.out.1.trans ((HX2.out.trans ((HB3.out.trans (hb.mono HB3.out.size)).mono HX2.out.size)).mono HB1.out.1.size))
  clear hb
  have hlen : (actT a.con).length ≤ 65536 := by have := HSZ.out; omega
  have d1 : decide ((65536 : Int) < (S.size + T.size : Nat)) = false := decide_eq_false (by have := HSZ.out; omega)
  have HLEN := Lib.hid hlen
  clear hlen
  go_wp2_with fail
  go_ret2
  refine ⟨.inl ⟨HOK.out, HLEN.out, ?_⟩, HBX.out⟩
  rw [← HE.out]
  rfl
set_option maxRecDepth 100000 in
set_option maxHeartbeats 4000000 in
theorem act51_3 (a : ActM) (w : World) (hat : ActAt w w.heap.size a) (hl : ActL a) (hR : ActR a.con) (hsz0 : actSize a.con ≤ 100000) (hk : a.kind = 3) (hok : ActOk a.con) : Calls Tryz.prog 18 #[actV a] w fun e w' => FmtR (ActOk a.con) (actT a.con) e ∧ Below w.heap.size w w' := by
  obtain ⟨C, hC⟩ : ∃ C, C = (actCs a).toArray := ⟨_, rfl⟩
  have hv : actV a = .agg C := by rw [hC]; rfl
  have hsz : (Tryz.prog.info? 33).map (·.size) = some C.size := by rw [hC]; kernel_rfl
  obtain ⟨W1, hW1⟩ : ∃ W1, W1 = (w.alloc (.cells C 33)) := ⟨_, rfl⟩
  have hrow := new_obj w (.cells C 33)
  have hb1 : Below w.heap.size w W1 := by rw [hW1]; exact below_new _ _
  have hlt1 : w.heap.size < W1.heap.size := by rw [hW1]; simp
  have HC := Lib.hid (show ∀ (j : Nat) (u : Value), (actCs a)[j]? = some u → ∀ X : World, Below W1.heap.size W1 X → X.cell? ⟨w.heap.size, j, none⟩ = some u from fun j u hj X hb => by
    refine (hb.cell (p := ⟨w.heap.size, j, none⟩) hlt1).trans ?_
    rw [hW1, Lib.cell_of_heap hrow, hC]
    simpa using hj)
  have HRA := Lib.hid (rightAct_any a W1 (hat.next hb1) hl)
  rw [tb_true hok] at HRA
  have HAW := Lib.hid (fun X : World => actWord_any 3 X)
  have HOK := Lib.hid hok
  have HB1 := Lib.hid (And.intro hb1 (And.intro hat (And.intro hR hsz0)))
  rw [hv] at HRA ⊢
  have HP0 := Lib.hid (HC.out 0 (.int .i64 3) (by rw [← hk]; rfl))
  have HP1 := Lib.hid (HC.out 1 (.int .i64 a.who) rfl)
  have HP3 := Lib.hid (HC.out 3 (.int .i64 a.call) rfl)
  have HK := Lib.hid hk
  clear hC hv hb1 hlt1 HC hok hat hl hR hsz0 hk
  go_enter Tryz.func18, Tryz.ntmps18
  go_wp2_with (refine wpList_load_row_g (by rfl) 33 (.tmp 1) rfl w.heap.size rfl 33 C (0, 0) _ hrow Tryz.underlying33 rfl hsz ?_)
  rw [← hW1]
  clear hrow hW1
  refine HRA.out.mono ?_
  rintro e X1 ⟨rfl, hb⟩
  have HX1 := Lib.hid hb
  have hp0 := HP0.out X1 hb
  clear hb HRA
  go_wp2_with fail
  refine (HAW.out X1).mono ?_
  rintro e X2 ⟨rfl, hb⟩
  have HX2 := Lib.hid (HX1.out.trans (hb.mono HX1.out.size))
  clear hb hp0 HAW
  have hp0 := HP0.out X2 HX2.out
  have hp1 := HP1.out X2 HX2.out
  have hp3 := HP3.out X2 HX2.out
  obtain ⟨S, hS⟩ : ∃ S, S = bs (actN 3) := ⟨_, rfl⟩
  have HS := Lib.hid hS
  have hSl : S.size ≤ 20 := by rw [hS]; decide
  rw [← hS]
  clear hS
  have HNS := Lib.hid (nums51_any [a.call] (fun v hv => by
    simp only [List.mem_cons, List.mem_nil_iff, or_false] at hv
    rcases hv with rfl
    · exact HB1.out.2.2.1.call
    ) (by simp) (some ⟨X2.heap.size, 0, none⟩) 1 (X2.alloc (.cells #[.int .i64 a.call] 2)) (Sl.lit X2 _ 2 rfl))
  obtain ⟨T, hT⟩ : ∃ T, T = bs (spW (([a.call] : List Int).map itoa)) := ⟨_, rfl⟩
  have HT := Lib.hid hT
  have hTl : T.size ≤ 70 := by
    have h := spW_len (ints_len (l := [a.call]) (fun v hv => by
    simp only [List.mem_cons, List.mem_nil_iff, or_false] at hv
    rcases hv with rfl
    · exact HB1.out.2.2.1.call
    ))
    rw [hT, bs_size]
    exact Nat.le_trans h (by simp)
  have HB3 := Lib.hid (below_new X2 (.cells #[.int .i64 a.call] 2))
  rw [← hT] at HNS
  have HE : Hid (S ++ T = bs (actT a.con)) := Lib.hid (by
    rw [HS.out, HT.out, bs_append]
    unfold actT actW
    rw [show a.con.kind = 3 from HK.out, spW_line]
    rfl)
  have HSZ : Hid (S.size + T.size = (actT a.con).length) := Lib.hid (by rw [← bs_size, ← HE.out, ByteArray.size_append])
  clear hT
  go_wp2_with fail
  refine HNS.out.mono ?_
  rintro e X3 ⟨rfl, hb⟩
  have HBX := Lib.hid (HB1.out.1.trans ((HX2.out.trans ((HB3.out.trans (hb.mono HB3.out.size)).mono HX2.out.size)).mono HB1.out.1.size))
  clear hb
  have hlen : (actT a.con).length ≤ 65536 := by have := HSZ.out; omega
  have d1 : decide ((65536 : Int) < (S.size + T.size : Nat)) = false := decide_eq_false (by have := HSZ.out; omega)
  have HLEN := Lib.hid hlen
  clear hlen
  go_wp2_with fail
  go_ret2
  refine ⟨.inl ⟨HOK.out, HLEN.out, ?_⟩, HBX.out⟩
  rw [← HE.out]
  rfl
set_option maxRecDepth 100000 in
set_option maxHeartbeats 4000000 in
theorem act51_4 (a : ActM) (w : World) (hat : ActAt w w.heap.size a) (hl : ActL a) (hR : ActR a.con) (hsz0 : actSize a.con ≤ 100000) (hk : a.kind = 4) (hok : ActOk a.con) : Calls Tryz.prog 18 #[actV a] w fun e w' => FmtR (ActOk a.con) (actT a.con) e ∧ Below w.heap.size w w' := by
  obtain ⟨C, hC⟩ : ∃ C, C = (actCs a).toArray := ⟨_, rfl⟩
  have hv : actV a = .agg C := by rw [hC]; rfl
  have hsz : (Tryz.prog.info? 33).map (·.size) = some C.size := by rw [hC]; kernel_rfl
  obtain ⟨W1, hW1⟩ : ∃ W1, W1 = (w.alloc (.cells C 33)) := ⟨_, rfl⟩
  have hrow := new_obj w (.cells C 33)
  have hb1 : Below w.heap.size w W1 := by rw [hW1]; exact below_new _ _
  have hlt1 : w.heap.size < W1.heap.size := by rw [hW1]; simp
  have HC := Lib.hid (show ∀ (j : Nat) (u : Value), (actCs a)[j]? = some u → ∀ X : World, Below W1.heap.size W1 X → X.cell? ⟨w.heap.size, j, none⟩ = some u from fun j u hj X hb => by
    refine (hb.cell (p := ⟨w.heap.size, j, none⟩) hlt1).trans ?_
    rw [hW1, Lib.cell_of_heap hrow, hC]
    simpa using hj)
  have HRA := Lib.hid (rightAct_any a W1 (hat.next hb1) hl)
  rw [tb_true hok] at HRA
  have HAW := Lib.hid (fun X : World => actWord_any 4 X)
  have HOK := Lib.hid hok
  have HB1 := Lib.hid (And.intro hb1 (And.intro hat (And.intro hR hsz0)))
  rw [hv] at HRA ⊢
  have HP0 := Lib.hid (HC.out 0 (.int .i64 4) (by rw [← hk]; rfl))
  have HP1 := Lib.hid (HC.out 1 (.int .i64 a.who) rfl)
  have HK := Lib.hid hk
  clear hC hv hb1 hlt1 HC hok hat hl hR hsz0 hk
  go_enter Tryz.func18, Tryz.ntmps18
  go_wp2_with (refine wpList_load_row_g (by rfl) 33 (.tmp 1) rfl w.heap.size rfl 33 C (0, 0) _ hrow Tryz.underlying33 rfl hsz ?_)
  rw [← hW1]
  clear hrow hW1
  refine HRA.out.mono ?_
  rintro e X1 ⟨rfl, hb⟩
  have HX1 := Lib.hid hb
  have hp0 := HP0.out X1 hb
  clear hb HRA
  go_wp2_with fail
  refine (HAW.out X1).mono ?_
  rintro e X2 ⟨rfl, hb⟩
  have HX2 := Lib.hid (HX1.out.trans (hb.mono HX1.out.size))
  clear hb hp0 HAW
  have hp0 := HP0.out X2 HX2.out
  have hp1 := HP1.out X2 HX2.out
  obtain ⟨S, hS⟩ : ∃ S, S = bs (actN 4) := ⟨_, rfl⟩
  have HS := Lib.hid hS
  have hSl : S.size ≤ 20 := by rw [hS]; decide
  rw [← hS]
  clear hS
  have HE : Hid (S = bs (actT a.con)) := Lib.hid (by
    rw [HS.out]
    unfold actT actW
    rw [show a.con.kind = 4 from HK.out]
    rfl)
  have HSZ : Hid (S.size = (actT a.con).length) := Lib.hid (by rw [HE.out, bs_size])
  have HBX := Lib.hid (HB1.out.1.trans (HX2.out.mono HB1.out.1.size))
  have hlen : (actT a.con).length ≤ 65536 := by have := HSZ.out; omega
  have d1 : decide ((65536 : Int) < (S.size : Int)) = false := decide_eq_false (by have := HSZ.out; omega)
  have HLEN := Lib.hid hlen
  clear hlen
  go_wp2_with fail
  go_ret2
  refine ⟨.inl ⟨HOK.out, HLEN.out, ?_⟩, HBX.out⟩
  rw [← HE.out]
  rfl
set_option maxRecDepth 100000 in
set_option maxHeartbeats 4000000 in
theorem act51_5 (a : ActM) (w : World) (hat : ActAt w w.heap.size a) (hl : ActL a) (hR : ActR a.con) (hsz0 : actSize a.con ≤ 100000) (hk : a.kind = 5) (hok : ActOk a.con) : Calls Tryz.prog 18 #[actV a] w fun e w' => FmtR (ActOk a.con) (actT a.con) e ∧ Below w.heap.size w w' := by
  obtain ⟨C, hC⟩ : ∃ C, C = (actCs a).toArray := ⟨_, rfl⟩
  have hv : actV a = .agg C := by rw [hC]; rfl
  have hsz : (Tryz.prog.info? 33).map (·.size) = some C.size := by rw [hC]; kernel_rfl
  obtain ⟨W1, hW1⟩ : ∃ W1, W1 = (w.alloc (.cells C 33)) := ⟨_, rfl⟩
  have hrow := new_obj w (.cells C 33)
  have hb1 : Below w.heap.size w W1 := by rw [hW1]; exact below_new _ _
  have hlt1 : w.heap.size < W1.heap.size := by rw [hW1]; simp
  have HC := Lib.hid (show ∀ (j : Nat) (u : Value), (actCs a)[j]? = some u → ∀ X : World, Below W1.heap.size W1 X → X.cell? ⟨w.heap.size, j, none⟩ = some u from fun j u hj X hb => by
    refine (hb.cell (p := ⟨w.heap.size, j, none⟩) hlt1).trans ?_
    rw [hW1, Lib.cell_of_heap hrow, hC]
    simpa using hj)
  have HRA := Lib.hid (rightAct_any a W1 (hat.next hb1) hl)
  rw [tb_true hok] at HRA
  have HAW := Lib.hid (fun X : World => actWord_any 5 X)
  have HOK := Lib.hid hok
  have HB1 := Lib.hid (And.intro hb1 (And.intro hat (And.intro hR hsz0)))
  rw [hv] at HRA ⊢
  have HP0 := Lib.hid (HC.out 0 (.int .i64 5) (by rw [← hk]; rfl))
  have HP1 := Lib.hid (HC.out 1 (.int .i64 a.who) rfl)
  have HP2 := Lib.hid (HC.out 2 (.int .i64 a.n) rfl)
  have HK := Lib.hid hk
  clear hC hv hb1 hlt1 HC hok hat hl hR hsz0 hk
  go_enter Tryz.func18, Tryz.ntmps18
  go_wp2_with (refine wpList_load_row_g (by rfl) 33 (.tmp 1) rfl w.heap.size rfl 33 C (0, 0) _ hrow Tryz.underlying33 rfl hsz ?_)
  rw [← hW1]
  clear hrow hW1
  refine HRA.out.mono ?_
  rintro e X1 ⟨rfl, hb⟩
  have HX1 := Lib.hid hb
  have hp0 := HP0.out X1 hb
  clear hb HRA
  go_wp2_with fail
  refine (HAW.out X1).mono ?_
  rintro e X2 ⟨rfl, hb⟩
  have HX2 := Lib.hid (HX1.out.trans (hb.mono HX1.out.size))
  clear hb hp0 HAW
  have hp0 := HP0.out X2 HX2.out
  have hp1 := HP1.out X2 HX2.out
  have hp2 := HP2.out X2 HX2.out
  obtain ⟨S, hS⟩ : ∃ S, S = bs (actN 5) := ⟨_, rfl⟩
  have HS := Lib.hid hS
  have hSl : S.size ≤ 20 := by rw [hS]; decide
  rw [← hS]
  clear hS
  have HNS := Lib.hid (nums51_any [a.n] (fun v hv => by
    simp only [List.mem_cons, List.mem_nil_iff, or_false] at hv
    rcases hv with rfl
    · exact HB1.out.2.2.1.n
    ) (by simp) (some ⟨X2.heap.size, 0, none⟩) 1 (X2.alloc (.cells #[.int .i64 a.n] 2)) (Sl.lit X2 _ 2 rfl))
  obtain ⟨T, hT⟩ : ∃ T, T = bs (spW (([a.n] : List Int).map itoa)) := ⟨_, rfl⟩
  have HT := Lib.hid hT
  have hTl : T.size ≤ 70 := by
    have h := spW_len (ints_len (l := [a.n]) (fun v hv => by
    simp only [List.mem_cons, List.mem_nil_iff, or_false] at hv
    rcases hv with rfl
    · exact HB1.out.2.2.1.n
    ))
    rw [hT, bs_size]
    exact Nat.le_trans h (by simp)
  have HB3 := Lib.hid (below_new X2 (.cells #[.int .i64 a.n] 2))
  rw [← hT] at HNS
  have HE : Hid (S ++ T = bs (actT a.con)) := Lib.hid (by
    rw [HS.out, HT.out, bs_append]
    unfold actT actW
    rw [show a.con.kind = 5 from HK.out, spW_line]
    rfl)
  have HSZ : Hid (S.size + T.size = (actT a.con).length) := Lib.hid (by rw [← bs_size, ← HE.out, ByteArray.size_append])
  clear hT
  go_wp2_with fail
  refine HNS.out.mono ?_
  rintro e X3 ⟨rfl, hb⟩
  have HBX := Lib.hid (HB1.out.1.trans ((HX2.out.trans ((HB3.out.trans (hb.mono HB3.out.size)).mono HX2.out.size)).mono HB1.out.1.size))
  clear hb
  have hlen : (actT a.con).length ≤ 65536 := by have := HSZ.out; omega
  have d1 : decide ((65536 : Int) < (S.size + T.size : Nat)) = false := decide_eq_false (by have := HSZ.out; omega)
  have HLEN := Lib.hid hlen
  clear hlen
  go_wp2_with fail
  go_ret2
  refine ⟨.inl ⟨HOK.out, HLEN.out, ?_⟩, HBX.out⟩
  rw [← HE.out]
  rfl
set_option maxRecDepth 100000 in
set_option maxHeartbeats 4000000 in
theorem act51_6 (a : ActM) (w : World) (hat : ActAt w w.heap.size a) (hl : ActL a) (hR : ActR a.con) (hsz0 : actSize a.con ≤ 100000) (hk : a.kind = 6) (hok : ActOk a.con) : Calls Tryz.prog 18 #[actV a] w fun e w' => FmtR (ActOk a.con) (actT a.con) e ∧ Below w.heap.size w w' := by
  obtain ⟨C, hC⟩ : ∃ C, C = (actCs a).toArray := ⟨_, rfl⟩
  have hv : actV a = .agg C := by rw [hC]; rfl
  have hsz : (Tryz.prog.info? 33).map (·.size) = some C.size := by rw [hC]; kernel_rfl
  obtain ⟨W1, hW1⟩ : ∃ W1, W1 = (w.alloc (.cells C 33)) := ⟨_, rfl⟩
  have hrow := new_obj w (.cells C 33)
  have hb1 : Below w.heap.size w W1 := by rw [hW1]; exact below_new _ _
  have hlt1 : w.heap.size < W1.heap.size := by rw [hW1]; simp
  have HC := Lib.hid (show ∀ (j : Nat) (u : Value), (actCs a)[j]? = some u → ∀ X : World, Below W1.heap.size W1 X → X.cell? ⟨w.heap.size, j, none⟩ = some u from fun j u hj X hb => by
    refine (hb.cell (p := ⟨w.heap.size, j, none⟩) hlt1).trans ?_
    rw [hW1, Lib.cell_of_heap hrow, hC]
    simpa using hj)
  have HRA := Lib.hid (rightAct_any a W1 (hat.next hb1) hl)
  rw [tb_true hok] at HRA
  have HAW := Lib.hid (fun X : World => actWord_any 6 X)
  have HOK := Lib.hid hok
  have HB1 := Lib.hid (And.intro hb1 (And.intro hat (And.intro hR hsz0)))
  rw [hv] at HRA ⊢
  have HP0 := Lib.hid (HC.out 0 (.int .i64 6) (by rw [← hk]; rfl))
  have HP1 := Lib.hid (HC.out 1 (.int .i64 a.who) rfl)
  have HP2 := Lib.hid (HC.out 2 (.int .i64 a.n) rfl)
  have HK := Lib.hid hk
  clear hC hv hb1 hlt1 HC hok hat hl hR hsz0 hk
  go_enter Tryz.func18, Tryz.ntmps18
  go_wp2_with (refine wpList_load_row_g (by rfl) 33 (.tmp 1) rfl w.heap.size rfl 33 C (0, 0) _ hrow Tryz.underlying33 rfl hsz ?_)
  rw [← hW1]
  clear hrow hW1
  refine HRA.out.mono ?_
  rintro e X1 ⟨rfl, hb⟩
  have HX1 := Lib.hid hb
  have hp0 := HP0.out X1 hb
  clear hb HRA
  go_wp2_with fail
  refine (HAW.out X1).mono ?_
  rintro e X2 ⟨rfl, hb⟩
  have HX2 := Lib.hid (HX1.out.trans (hb.mono HX1.out.size))
  clear hb hp0 HAW
  have hp0 := HP0.out X2 HX2.out
  have hp1 := HP1.out X2 HX2.out
  have hp2 := HP2.out X2 HX2.out
  obtain ⟨S, hS⟩ : ∃ S, S = bs (actN 6) := ⟨_, rfl⟩
  have HS := Lib.hid hS
  have hSl : S.size ≤ 20 := by rw [hS]; decide
  rw [← hS]
  clear hS
  have HNS := Lib.hid (nums51_any [a.n] (fun v hv => by
    simp only [List.mem_cons, List.mem_nil_iff, or_false] at hv
    rcases hv with rfl
    · exact HB1.out.2.2.1.n
    ) (by simp) (some ⟨X2.heap.size, 0, none⟩) 1 (X2.alloc (.cells #[.int .i64 a.n] 2)) (Sl.lit X2 _ 2 rfl))
  obtain ⟨T, hT⟩ : ∃ T, T = bs (spW (([a.n] : List Int).map itoa)) := ⟨_, rfl⟩
  have HT := Lib.hid hT
  have hTl : T.size ≤ 70 := by
    have h := spW_len (ints_len (l := [a.n]) (fun v hv => by
    simp only [List.mem_cons, List.mem_nil_iff, or_false] at hv
    rcases hv with rfl
    · exact HB1.out.2.2.1.n
    ))
    rw [hT, bs_size]
    exact Nat.le_trans h (by simp)
  have HB3 := Lib.hid (below_new X2 (.cells #[.int .i64 a.n] 2))
  rw [← hT] at HNS
  have HE : Hid (S ++ T = bs (actT a.con)) := Lib.hid (by
    rw [HS.out, HT.out, bs_append]
    unfold actT actW
    rw [show a.con.kind = 6 from HK.out, spW_line]
    rfl)
  have HSZ : Hid (S.size + T.size = (actT a.con).length) := Lib.hid (by rw [← bs_size, ← HE.out, ByteArray.size_append])
  clear hT
  go_wp2_with fail
  refine HNS.out.mono ?_
  rintro e X3 ⟨rfl, hb⟩
  have HBX := Lib.hid (HB1.out.1.trans ((HX2.out.trans ((HB3.out.trans (hb.mono HB3.out.size)).mono HX2.out.size)).mono HB1.out.1.size))
  clear hb
  have hlen : (actT a.con).length ≤ 65536 := by have := HSZ.out; omega
  have d1 : decide ((65536 : Int) < (S.size + T.size : Nat)) = false := decide_eq_false (by have := HSZ.out; omega)
  have HLEN := Lib.hid hlen
  clear hlen
  go_wp2_with fail
  go_ret2
  refine ⟨.inl ⟨HOK.out, HLEN.out, ?_⟩, HBX.out⟩
  rw [← HE.out]
  rfl
set_option maxRecDepth 100000 in
set_option maxHeartbeats 4000000 in
theorem act51_7 (a : ActM) (w : World) (hat : ActAt w w.heap.size a) (hl : ActL a) (hR : ActR a.con) (hsz0 : actSize a.con ≤ 100000) (hk : a.kind = 7) (hok : ActOk a.con) : Calls Tryz.prog 18 #[actV a] w fun e w' => FmtR (ActOk a.con) (actT a.con) e ∧ Below w.heap.size w w' := by
  obtain ⟨C, hC⟩ : ∃ C, C = (actCs a).toArray := ⟨_, rfl⟩
  have hv : actV a = .agg C := by rw [hC]; rfl
  have hsz : (Tryz.prog.info? 33).map (·.size) = some C.size := by rw [hC]; kernel_rfl
  obtain ⟨W1, hW1⟩ : ∃ W1, W1 = (w.alloc (.cells C 33)) := ⟨_, rfl⟩
  have hrow := new_obj w (.cells C 33)
  have hb1 : Below w.heap.size w W1 := by rw [hW1]; exact below_new _ _
  have hlt1 : w.heap.size < W1.heap.size := by rw [hW1]; simp
  have HC := Lib.hid (show ∀ (j : Nat) (u : Value), (actCs a)[j]? = some u → ∀ X : World, Below W1.heap.size W1 X → X.cell? ⟨w.heap.size, j, none⟩ = some u from fun j u hj X hb => by
    refine (hb.cell (p := ⟨w.heap.size, j, none⟩) hlt1).trans ?_
    rw [hW1, Lib.cell_of_heap hrow, hC]
    simpa using hj)
  have HRA := Lib.hid (rightAct_any a W1 (hat.next hb1) hl)
  rw [tb_true hok] at HRA
  have HAW := Lib.hid (fun X : World => actWord_any 7 X)
  have HOK := Lib.hid hok
  have HB1 := Lib.hid (And.intro hb1 (And.intro hat (And.intro hR hsz0)))
  rw [hv] at HRA ⊢
  have HP0 := Lib.hid (HC.out 0 (.int .i64 7) (by rw [← hk]; rfl))
  have HP1 := Lib.hid (HC.out 1 (.int .i64 a.who) rfl)
  have HP2 := Lib.hid (HC.out 2 (.int .i64 a.n) rfl)
  have HK := Lib.hid hk
  clear hC hv hb1 hlt1 HC hok hat hl hR hsz0 hk
  go_enter Tryz.func18, Tryz.ntmps18
  go_wp2_with (refine wpList_load_row_g (by rfl) 33 (.tmp 1) rfl w.heap.size rfl 33 C (0, 0) _ hrow Tryz.underlying33 rfl hsz ?_)
  rw [← hW1]
  clear hrow hW1
  refine HRA.out.mono ?_
  rintro e X1 ⟨rfl, hb⟩
  have HX1 := Lib.hid hb
  have hp0 := HP0.out X1 hb
  clear hb HRA
  go_wp2_with fail
  refine (HAW.out X1).mono ?_
  rintro e X2 ⟨rfl, hb⟩
  have HX2 := Lib.hid (HX1.out.trans (hb.mono HX1.out.size))
  clear hb hp0 HAW
  have hp0 := HP0.out X2 HX2.out
  have hp1 := HP1.out X2 HX2.out
  have hp2 := HP2.out X2 HX2.out
  obtain ⟨S, hS⟩ : ∃ S, S = bs (actN 7) := ⟨_, rfl⟩
  have HS := Lib.hid hS
  have hSl : S.size ≤ 20 := by rw [hS]; decide
  rw [← hS]
  clear hS
  have HNS := Lib.hid (nums51_any [a.n] (fun v hv => by
    simp only [List.mem_cons, List.mem_nil_iff, or_false] at hv
    rcases hv with rfl
    · exact HB1.out.2.2.1.n
    ) (by simp) (some ⟨X2.heap.size, 0, none⟩) 1 (X2.alloc (.cells #[.int .i64 a.n] 2)) (Sl.lit X2 _ 2 rfl))
  obtain ⟨T, hT⟩ : ∃ T, T = bs (spW (([a.n] : List Int).map itoa)) := ⟨_, rfl⟩
  have HT := Lib.hid hT
  have hTl : T.size ≤ 70 := by
    have h := spW_len (ints_len (l := [a.n]) (fun v hv => by
    simp only [List.mem_cons, List.mem_nil_iff, or_false] at hv
    rcases hv with rfl
    · exact HB1.out.2.2.1.n
    ))
    rw [hT, bs_size]
    exact Nat.le_trans h (by simp)
  have HB3 := Lib.hid (below_new X2 (.cells #[.int .i64 a.n] 2))
  rw [← hT] at HNS
  have HE : Hid (S ++ T = bs (actT a.con)) := Lib.hid (by
    rw [HS.out, HT.out, bs_append]
    unfold actT actW
    rw [show a.con.kind = 7 from HK.out, spW_line]
    rfl)
  have HSZ : Hid (S.size + T.size = (actT a.con).length) := Lib.hid (by rw [← bs_size, ← HE.out, ByteArray.size_append])
  clear hT
  go_wp2_with fail
  refine HNS.out.mono ?_
  rintro e X3 ⟨rfl, hb⟩
  have HBX := Lib.hid (HB1.out.1.trans ((HX2.out.trans ((HB3.out.trans (hb.mono HB3.out.size)).mono HX2.out.size)).mono HB1.out.1.size))
  clear hb
  have hlen : (actT a.con).length ≤ 65536 := by have := HSZ.out; omega
  have d1 : decide ((65536 : Int) < (S.size + T.size : Nat)) = false := decide_eq_false (by have := HSZ.out; omega)
  have HLEN := Lib.hid hlen
  clear hlen
  go_wp2_with fail
  go_ret2
  refine ⟨.inl ⟨HOK.out, HLEN.out, ?_⟩, HBX.out⟩
  rw [← HE.out]
  rfl
set_option maxRecDepth 100000 in
set_option maxHeartbeats 4000000 in
theorem act51_8 (a : ActM) (w : World) (hat : ActAt w w.heap.size a) (hl : ActL a) (hR : ActR a.con) (hsz0 : actSize a.con ≤ 100000) (hk : a.kind = 8) (hok : ActOk a.con) : Calls Tryz.prog 18 #[actV a] w fun e w' => FmtR (ActOk a.con) (actT a.con) e ∧ Below w.heap.size w w' := by
  obtain ⟨C, hC⟩ : ∃ C, C = (actCs a).toArray := ⟨_, rfl⟩
  have hv : actV a = .agg C := by rw [hC]; rfl
  have hsz : (Tryz.prog.info? 33).map (·.size) = some C.size := by rw [hC]; kernel_rfl
  obtain ⟨W1, hW1⟩ : ∃ W1, W1 = (w.alloc (.cells C 33)) := ⟨_, rfl⟩
  have hrow := new_obj w (.cells C 33)
  have hb1 : Below w.heap.size w W1 := by rw [hW1]; exact below_new _ _
  have hlt1 : w.heap.size < W1.heap.size := by rw [hW1]; simp
  have HC := Lib.hid (show ∀ (j : Nat) (u : Value), (actCs a)[j]? = some u → ∀ X : World, Below W1.heap.size W1 X → X.cell? ⟨w.heap.size, j, none⟩ = some u from fun j u hj X hb => by
    refine (hb.cell (p := ⟨w.heap.size, j, none⟩) hlt1).trans ?_
    rw [hW1, Lib.cell_of_heap hrow, hC]
    simpa using hj)
  have HRA := Lib.hid (rightAct_any a W1 (hat.next hb1) hl)
  rw [tb_true hok] at HRA
  have HAW := Lib.hid (fun X : World => actWord_any 8 X)
  have HOK := Lib.hid hok
  have HB1 := Lib.hid (And.intro hb1 (And.intro hat (And.intro hR hsz0)))
  rw [hv] at HRA ⊢
  have HP0 := Lib.hid (HC.out 0 (.int .i64 8) (by rw [← hk]; rfl))
  have HP1 := Lib.hid (HC.out 1 (.int .i64 a.who) rfl)
  have HP7 := Lib.hid (HC.out 7 (.slice a.gA a.groups.length a.gc) rfl)
  have HK := Lib.hid hk
  clear hC hv hb1 hlt1 HC hok hat hl hR hsz0 hk
  go_enter Tryz.func18, Tryz.ntmps18
  go_wp2_with (refine wpList_load_row_g (by rfl) 33 (.tmp 1) rfl w.heap.size rfl 33 C (0, 0) _ hrow Tryz.underlying33 rfl hsz ?_)
  rw [← hW1]
  clear hrow hW1
  refine HRA.out.mono ?_
  rintro e X1 ⟨rfl, hb⟩
  have HX1 := Lib.hid hb
  have hp0 := HP0.out X1 hb
  clear hb HRA
  go_wp2_with fail
  refine (HAW.out X1).mono ?_
  rintro e X2 ⟨rfl, hb⟩
  have HX2 := Lib.hid (HX1.out.trans (hb.mono HX1.out.size))
  clear hb hp0 HAW
  have hp0 := HP0.out X2 HX2.out
  have hp1 := HP1.out X2 HX2.out
  have hp7 := HP7.out X2 HX2.out
  obtain ⟨S, hS⟩ : ∃ S, S = bs (actN 8) := ⟨_, rfl⟩
  have HS := Lib.hid hS
  have hSl : S.size ≤ 20 := by rw [hS]; decide
  rw [← hS]
  clear hS
  have HNS := Lib.hid (list51_any a.groups HB1.out.2.2.1.groups (by have := (size_parts HB1.out.2.2.2).1; omega) a.gA a.gc X2 (Sl.more (Sl.below HB1.out.2.1.groups (HB1.out.1.trans (HX2.out.mono HB1.out.1.size))) (Nat.le_trans HB1.out.1.size HX2.out.size)))
  obtain ⟨T, hT⟩ : ∃ T, T = bs (spW (listW a.groups)) := ⟨_, rfl⟩
  have HT := Lib.hid hT
  have hTl : T.size ≤ 22000100 := by
    have h := spW_list_le HB1.out.2.2.1.groups (by have := (size_parts HB1.out.2.2.2).1; show a.groups.length ≤ _; omega) a.groups.length
    rw [show a.con.groups = a.groups from rfl, List.take_length] at h
    rw [hT, bs_size]
    exact h
  have HB3 := Lib.hid (Below.refl X2.heap.size X2)
  rw [← hT] at HNS
  have HE : Hid (S ++ T = bs (actT a.con)) := Lib.hid (by
    rw [HS.out, HT.out, bs_append]
    unfold actT actW
    rw [show a.con.kind = 8 from HK.out, spW_line]
    rw [show (actF 8).flatMap (aW a.con) = listW a.groups from List.append_nil _])
  have HSZ : Hid (S.size + T.size = (actT a.con).length) := Lib.hid (by rw [← bs_size, ← HE.out, ByteArray.size_append])
  clear hT
  go_wp2_with fail
  refine HNS.out.mono ?_
  rintro e X3 ⟨rfl, hb⟩
  have HBX := Lib.hid (HB1.out.1.trans ((HX2.out.trans ((HB3.out.trans (hb.mono HB3.out.size)).mono HX2.out.size)).mono HB1.out.1.size))
  clear hb
  by_cases hlen : (actT a.con).length ≤ 65536
  · have d1 : decide ((65536 : Int) < (S.size : Int) + (T.size : Int)) = false := decide_eq_false (by have := HSZ.out; omega)
    have HLEN := Lib.hid hlen
    clear hlen
    go_wp2_with fail
    go_ret2
    refine ⟨.inl ⟨HOK.out, HLEN.out, ?_⟩, HBX.out⟩
    rw [← HE.out]
    rfl
  · have d1 : decide ((65536 : Int) < (S.size : Int) + (T.size : Int)) = true := decide_eq_true (by have := HSZ.out; omega)
    have HLEN := Lib.hid (show 65536 < (actT a.con).length by omega)
    clear hlen
    go_wp2_with fail
    go_ret2
    exact ⟨.inr (.inl ⟨HOK.out, HLEN.out, rfl⟩), HBX.out⟩
set_option maxRecDepth 100000 in
set_option maxHeartbeats 4000000 in
theorem act51_9 (a : ActM) (w : World) (hat : ActAt w w.heap.size a) (hl : ActL a) (hR : ActR a.con) (hsz0 : actSize a.con ≤ 100000) (hk : a.kind = 9) (hok : ActOk a.con) : Calls Tryz.prog 18 #[actV a] w fun e w' => FmtR (ActOk a.con) (actT a.con) e ∧ Below w.heap.size w w' := by
  obtain ⟨C, hC⟩ : ∃ C, C = (actCs a).toArray := ⟨_, rfl⟩
  have hv : actV a = .agg C := by rw [hC]; rfl
  have hsz : (Tryz.prog.info? 33).map (·.size) = some C.size := by rw [hC]; kernel_rfl
  obtain ⟨W1, hW1⟩ : ∃ W1, W1 = (w.alloc (.cells C 33)) := ⟨_, rfl⟩
  have hrow := new_obj w (.cells C 33)
  have hb1 : Below w.heap.size w W1 := by rw [hW1]; exact below_new _ _
  have hlt1 : w.heap.size < W1.heap.size := by rw [hW1]; simp
  have HC := Lib.hid (show ∀ (j : Nat) (u : Value), (actCs a)[j]? = some u → ∀ X : World, Below W1.heap.size W1 X → X.cell? ⟨w.heap.size, j, none⟩ = some u from fun j u hj X hb => by
    refine (hb.cell (p := ⟨w.heap.size, j, none⟩) hlt1).trans ?_
    rw [hW1, Lib.cell_of_heap hrow, hC]
    simpa using hj)
  have HRA := Lib.hid (rightAct_any a W1 (hat.next hb1) hl)
  rw [tb_true hok] at HRA
  have HAW := Lib.hid (fun X : World => actWord_any 9 X)
  have HOK := Lib.hid hok
  have HB1 := Lib.hid (And.intro hb1 (And.intro hat (And.intro hR hsz0)))
  rw [hv] at HRA ⊢
  have HP0 := Lib.hid (HC.out 0 (.int .i64 9) (by rw [← hk]; rfl))
  have HP1 := Lib.hid (HC.out 1 (.int .i64 a.who) rfl)
  have HK := Lib.hid hk
  clear hC hv hb1 hlt1 HC hok hat hl hR hsz0 hk
  go_enter Tryz.func18, Tryz.ntmps18
  go_wp2_with (refine wpList_load_row_g (by rfl) 33 (.tmp 1) rfl w.heap.size rfl 33 C (0, 0) _ hrow Tryz.underlying33 rfl hsz ?_)
  rw [← hW1]
  clear hrow hW1
  refine HRA.out.mono ?_
  rintro e X1 ⟨rfl, hb⟩
  have HX1 := Lib.hid hb
  have hp0 := HP0.out X1 hb
  clear hb HRA
  go_wp2_with fail
  refine (HAW.out X1).mono ?_
  rintro e X2 ⟨rfl, hb⟩
  have HX2 := Lib.hid (HX1.out.trans (hb.mono HX1.out.size))
  clear hb hp0 HAW
  have hp0 := HP0.out X2 HX2.out
  have hp1 := HP1.out X2 HX2.out
  obtain ⟨S, hS⟩ : ∃ S, S = bs (actN 9) := ⟨_, rfl⟩
  have HS := Lib.hid hS
  have hSl : S.size ≤ 20 := by rw [hS]; decide
  rw [← hS]
  clear hS
  have HE : Hid (S = bs (actT a.con)) := Lib.hid (by
    rw [HS.out]
    unfold actT actW
    rw [show a.con.kind = 9 from HK.out]
    rfl)
  have HSZ : Hid (S.size = (actT a.con).length) := Lib.hid (by rw [HE.out, bs_size])
  have HBX := Lib.hid (HB1.out.1.trans (HX2.out.mono HB1.out.1.size))
  have hlen : (actT a.con).length ≤ 65536 := by have := HSZ.out; omega
  have d1 : decide ((65536 : Int) < (S.size : Int)) = false := decide_eq_false (by have := HSZ.out; omega)
  have HLEN := Lib.hid hlen
  clear hlen
  go_wp2_with fail
  go_ret2
  refine ⟨.inl ⟨HOK.out, HLEN.out, ?_⟩, HBX.out⟩
  rw [← HE.out]
  rfl
end
section
open Go.RowKit Go.Maps
open Go.Lib (itoa)

set_option maxRecDepth 100000 in
set_option maxHeartbeats 4000000 in
theorem act51_10 (a : ActM) (w : World) (hat : ActAt w w.heap.size a) (hl : ActL a) (hR : ActR a.con) (hsz0 : actSize a.con ≤ 100000) (hk : a.kind = 10) (hok : ActOk a.con) : Calls Tryz.prog 18 #[actV a] w fun e w' => FmtR (ActOk a.con) (actT a.con) e ∧ Below w.heap.size w w' := by
  obtain ⟨C, hC⟩ : ∃ C, C = (actCs a).toArray := ⟨_, rfl⟩
  have hv : actV a = .agg C := by rw [hC]; rfl
  have hsz : (Tryz.prog.info? 33).map (·.size) = some C.size := by rw [hC]; kernel_rfl
  obtain ⟨W1, hW1⟩ : ∃ W1, W1 = (w.alloc (.cells C 33)) := ⟨_, rfl⟩
  have hrow := new_obj w (.cells C 33)
  have hb1 : Below w.heap.size w W1 := by rw [hW1]; exact below_new _ _
  have hlt1 : w.heap.size < W1.heap.size := by rw [hW1]; simp
  have HC := Lib.hid (show ∀ (j : Nat) (u : Value), (actCs a)[j]? = some u → ∀ X : World, Below W1.heap.size W1 X → X.cell? ⟨w.heap.size, j, none⟩ = some u from fun j u hj X hb => by
    refine (hb.cell (p := ⟨w.heap.size, j, none⟩) hlt1).trans ?_
    rw [hW1, Lib.cell_of_heap hrow, hC]
    simpa using hj)
  have HRA := Lib.hid (rightAct_any a W1 (hat.next hb1) hl)
  rw [tb_true hok] at HRA
  have HAW := Lib.hid (fun X : World => actWord_any 10 X)
  have HOK := Lib.hid hok
  have HB1 := Lib.hid (And.intro hb1 (And.intro hat (And.intro hR hsz0)))
  rw [hv] at HRA ⊢
  have HP0 := Lib.hid (HC.out 0 (.int .i64 10) (by rw [← hk]; rfl))
  have HP1 := Lib.hid (HC.out 1 (.int .i64 a.who) rfl)
  have HP2 := Lib.hid (HC.out 2 (.int .i64 a.n) rfl)
  have HK := Lib.hid hk
  clear hC hv hb1 hlt1 HC hok hat hl hR hsz0 hk
  go_enter Tryz.func18, Tryz.ntmps18
  go_wp2_with (refine wpList_load_row_g (by rfl) 33 (.tmp 1) rfl w.heap.size rfl 33 C (0, 0) _ hrow Tryz.underlying33 rfl hsz ?_)
  rw [← hW1]
  clear hrow hW1
  refine HRA.out.mono ?_
  rintro e X1 ⟨rfl, hb⟩
  have HX1 := Lib.hid hb
  have hp0 := HP0.out X1 hb
  clear hb HRA
  go_wp2_with fail
  refine (HAW.out X1).mono ?_
  rintro e X2 ⟨rfl, hb⟩
  have HX2 := Lib.hid (HX1.out.trans (hb.mono HX1.out.size))
  clear hb hp0 HAW
  have hp0 := HP0.out X2 HX2.out
  have hp1 := HP1.out X2 HX2.out
  have hp2 := HP2.out X2 HX2.out
  obtain ⟨S, hS⟩ : ∃ S, S = bs (actN 10) := ⟨_, rfl⟩
  have HS := Lib.hid hS
  have hSl : S.size ≤ 20 := by rw [hS]; decide
  rw [← hS]
  clear hS
  have HNS := Lib.hid (nums51_any [a.who, a.n] (fun v hv => by
    simp only [List.mem_cons, List.mem_nil_iff, or_false] at hv
    rcases hv with rfl | rfl
    · exact HB1.out.2.2.1.who
    · exact HB1.out.2.2.1.n
    ) (by simp) (some ⟨X2.heap.size, 0, none⟩) 2 (X2.alloc (.cells #[.int .i64 a.who, .int .i64 a.n] 2)) (Sl.lit X2 _ 2 rfl))
  obtain ⟨T, hT⟩ : ∃ T, T = bs (spW (([a.who, a.n] : List Int).map itoa)) := ⟨_, rfl⟩
  have HT := Lib.hid hT
  have hTl : T.size ≤ 70 := by
    have h := spW_len (ints_len (l := [a.who, a.n]) (fun v hv => by
    simp only [List.mem_cons, List.mem_nil_iff, or_false] at hv
    rcases hv with rfl | rfl
    · exact HB1.out.2.2.1.who
    · exact HB1.out.2.2.1.n
    ))
    rw [hT, bs_size]
    exact Nat.le_trans h (by simp)
  have HB3 := Lib.hid (below_new X2 (.cells #[.int .i64 a.who, .int .i64 a.n] 2))
  rw [← hT] at HNS
  have HE : Hid (S ++ T = bs (actT a.con)) := Lib.hid (by
    rw [HS.out, HT.out, bs_append]
    unfold actT actW
    rw [show a.con.kind = 10 from HK.out, spW_line]
    rfl)
  have HSZ : Hid (S.size + T.size = (actT a.con).length) := Lib.hid (by rw [← bs_size, ← HE.out, ByteArray.size_append])
  clear hT
  go_wp2_with fail
  refine HNS.out.mono ?_
  rintro e X3 ⟨rfl, hb⟩
  have HBX := Lib.hid (HB1.out.1.trans ((HX2.out.trans ((HB3.out.trans (hb.mono HB3.out.size)).mono HX2.out.size)).mono HB1.out.1.size))
  clear hb
  have hlen : (actT a.con).length ≤ 65536 := by have := HSZ.out; omega
  have d1 : decide ((65536 : Int) < (S.size + T.size : Nat)) = false := decide_eq_false (by have := HSZ.out; omega)
  have HLEN := Lib.hid hlen
  clear hlen
  go_wp2_with fail
  go_ret2
  refine ⟨.inl ⟨HOK.out, HLEN.out, ?_⟩, HBX.out⟩
  rw [← HE.out]
  rfl
set_option maxRecDepth 100000 in
set_option maxHeartbeats 4000000 in
theorem act51_11 (a : ActM) (w : World) (hat : ActAt w w.heap.size a) (hl : ActL a) (hR : ActR a.con) (hsz0 : actSize a.con ≤ 100000) (hk : a.kind = 11) (hok : ActOk a.con) : Calls Tryz.prog 18 #[actV a] w fun e w' => FmtR (ActOk a.con) (actT a.con) e ∧ Below w.heap.size w w' := by
  obtain ⟨C, hC⟩ : ∃ C, C = (actCs a).toArray := ⟨_, rfl⟩
  have hv : actV a = .agg C := by rw [hC]; rfl
  have hsz : (Tryz.prog.info? 33).map (·.size) = some C.size := by rw [hC]; kernel_rfl
  obtain ⟨W1, hW1⟩ : ∃ W1, W1 = (w.alloc (.cells C 33)) := ⟨_, rfl⟩
  have hrow := new_obj w (.cells C 33)
  have hb1 : Below w.heap.size w W1 := by rw [hW1]; exact below_new _ _
  have hlt1 : w.heap.size < W1.heap.size := by rw [hW1]; simp
  have HC := Lib.hid (show ∀ (j : Nat) (u : Value), (actCs a)[j]? = some u → ∀ X : World, Below W1.heap.size W1 X → X.cell? ⟨w.heap.size, j, none⟩ = some u from fun j u hj X hb => by
    refine (hb.cell (p := ⟨w.heap.size, j, none⟩) hlt1).trans ?_
    rw [hW1, Lib.cell_of_heap hrow, hC]
    simpa using hj)
  have HRA := Lib.hid (rightAct_any a W1 (hat.next hb1) hl)
  rw [tb_true hok] at HRA
  have HAW := Lib.hid (fun X : World => actWord_any 11 X)
  have HOK := Lib.hid hok
  have HB1 := Lib.hid (And.intro hb1 (And.intro hat (And.intro hR hsz0)))
  rw [hv] at HRA ⊢
  have HP0 := Lib.hid (HC.out 0 (.int .i64 11) (by rw [← hk]; rfl))
  have HP1 := Lib.hid (HC.out 1 (.int .i64 a.who) rfl)
  have HK := Lib.hid hk
  clear hC hv hb1 hlt1 HC hok hat hl hR hsz0 hk
  go_enter Tryz.func18, Tryz.ntmps18
  go_wp2_with (refine wpList_load_row_g (by rfl) 33 (.tmp 1) rfl w.heap.size rfl 33 C (0, 0) _ hrow Tryz.underlying33 rfl hsz ?_)
  rw [← hW1]
  clear hrow hW1
  refine HRA.out.mono ?_
  rintro e X1 ⟨rfl, hb⟩
  have HX1 := Lib.hid hb
  have hp0 := HP0.out X1 hb
  clear hb HRA
  go_wp2_with fail
  refine (HAW.out X1).mono ?_
  rintro e X2 ⟨rfl, hb⟩
  have HX2 := Lib.hid (HX1.out.trans (hb.mono HX1.out.size))
  clear hb hp0 HAW
  have hp0 := HP0.out X2 HX2.out
  have hp1 := HP1.out X2 HX2.out
  obtain ⟨S, hS⟩ : ∃ S, S = bs (actN 11) := ⟨_, rfl⟩
  have HS := Lib.hid hS
  have hSl : S.size ≤ 20 := by rw [hS]; decide
  rw [← hS]
  clear hS
  have HNS := Lib.hid (nums51_any [a.who] (fun v hv => by
    simp only [List.mem_cons, List.mem_nil_iff, or_false] at hv
    rcases hv with rfl
    · exact HB1.out.2.2.1.who
    ) (by simp) (some ⟨X2.heap.size, 0, none⟩) 1 (X2.alloc (.cells #[.int .i64 a.who] 2)) (Sl.lit X2 _ 2 rfl))
  obtain ⟨T, hT⟩ : ∃ T, T = bs (spW (([a.who] : List Int).map itoa)) := ⟨_, rfl⟩
  have HT := Lib.hid hT
  have hTl : T.size ≤ 70 := by
    have h := spW_len (ints_len (l := [a.who]) (fun v hv => by
    simp only [List.mem_cons, List.mem_nil_iff, or_false] at hv
    rcases hv with rfl
    · exact HB1.out.2.2.1.who
    ))
    rw [hT, bs_size]
    exact Nat.le_trans h (by simp)
  have HB3 := Lib.hid (below_new X2 (.cells #[.int .i64 a.who] 2))
  rw [← hT] at HNS
  have HE : Hid (S ++ T = bs (actT a.con)) := Lib.hid (by
    rw [HS.out, HT.out, bs_append]
    unfold actT actW
    rw [show a.con.kind = 11 from HK.out, spW_line]
    rfl)
  have HSZ : Hid (S.size + T.size = (actT a.con).length) := Lib.hid (by rw [← bs_size, ← HE.out, ByteArray.size_append])
  clear hT
  go_wp2_with fail
  refine HNS.out.mono ?_
  rintro e X3 ⟨rfl, hb⟩
  have HBX := Lib.hid (HB1.out.1.trans ((HX2.out.trans ((HB3.out.trans (hb.mono HB3.out.size)).mono HX2.out.size)).mono HB1.out.1.size))
  clear hb
  have hlen : (actT a.con).length ≤ 65536 := by have := HSZ.out; omega
  have d1 : decide ((65536 : Int) < (S.size + T.size : Nat)) = false := decide_eq_false (by have := HSZ.out; omega)
  have HLEN := Lib.hid hlen
  clear hlen
  go_wp2_with fail
  go_ret2
  refine ⟨.inl ⟨HOK.out, HLEN.out, ?_⟩, HBX.out⟩
  rw [← HE.out]
  rfl
set_option maxRecDepth 100000 in
set_option maxHeartbeats 4000000 in
theorem act51_12 (a : ActM) (w : World) (hat : ActAt w w.heap.size a) (hl : ActL a) (hR : ActR a.con) (hsz0 : actSize a.con ≤ 100000) (hk : a.kind = 12) (hok : ActOk a.con) : Calls Tryz.prog 18 #[actV a] w fun e w' => FmtR (ActOk a.con) (actT a.con) e ∧ Below w.heap.size w w' := by
  obtain ⟨C, hC⟩ : ∃ C, C = (actCs a).toArray := ⟨_, rfl⟩
  have hv : actV a = .agg C := by rw [hC]; rfl
  have hsz : (Tryz.prog.info? 33).map (·.size) = some C.size := by rw [hC]; kernel_rfl
  obtain ⟨W1, hW1⟩ : ∃ W1, W1 = (w.alloc (.cells C 33)) := ⟨_, rfl⟩
  have hrow := new_obj w (.cells C 33)
  have hb1 : Below w.heap.size w W1 := by rw [hW1]; exact below_new _ _
  have hlt1 : w.heap.size < W1.heap.size := by rw [hW1]; simp
  have HC := Lib.hid (show ∀ (j : Nat) (u : Value), (actCs a)[j]? = some u → ∀ X : World, Below W1.heap.size W1 X → X.cell? ⟨w.heap.size, j, none⟩ = some u from fun j u hj X hb => by
    refine (hb.cell (p := ⟨w.heap.size, j, none⟩) hlt1).trans ?_
    rw [hW1, Lib.cell_of_heap hrow, hC]
    simpa using hj)
  have HRA := Lib.hid (rightAct_any a W1 (hat.next hb1) hl)
  rw [tb_true hok] at HRA
  have HAW := Lib.hid (fun X : World => actWord_any 12 X)
  have HOK := Lib.hid hok
  have HB1 := Lib.hid (And.intro hb1 (And.intro hat (And.intro hR hsz0)))
  rw [hv] at HRA ⊢
  have HP0 := Lib.hid (HC.out 0 (.int .i64 12) (by rw [← hk]; rfl))
  have HP1 := Lib.hid (HC.out 1 (.int .i64 a.who) rfl)
  have HK := Lib.hid hk
  clear hC hv hb1 hlt1 HC hok hat hl hR hsz0 hk
  go_enter Tryz.func18, Tryz.ntmps18
  go_wp2_with (refine wpList_load_row_g (by rfl) 33 (.tmp 1) rfl w.heap.size rfl 33 C (0, 0) _ hrow Tryz.underlying33 rfl hsz ?_)
  rw [← hW1]
  clear hrow hW1
  refine HRA.out.mono ?_
  rintro e X1 ⟨rfl, hb⟩
  have HX1 := Lib.hid hb
  have hp0 := HP0.out X1 hb
  clear hb HRA
  go_wp2_with fail
  refine (HAW.out X1).mono ?_
  rintro e X2 ⟨rfl, hb⟩
  have HX2 := Lib.hid (HX1.out.trans (hb.mono HX1.out.size))
  clear hb hp0 HAW
  have hp0 := HP0.out X2 HX2.out
  have hp1 := HP1.out X2 HX2.out
  obtain ⟨S, hS⟩ : ∃ S, S = bs (actN 12) := ⟨_, rfl⟩
  have HS := Lib.hid hS
  have hSl : S.size ≤ 20 := by rw [hS]; decide
  rw [← hS]
  clear hS
  have HNS := Lib.hid (nums51_any [a.who] (fun v hv => by
    simp only [List.mem_cons, List.mem_nil_iff, or_false] at hv
    rcases hv with rfl
    · exact HB1.out.2.2.1.who
    ) (by simp) (some ⟨X2.heap.size, 0, none⟩) 1 (X2.alloc (.cells #[.int .i64 a.who] 2)) (Sl.lit X2 _ 2 rfl))
  obtain ⟨T, hT⟩ : ∃ T, T = bs (spW (([a.who] : List Int).map itoa)) := ⟨_, rfl⟩
  have HT := Lib.hid hT
  have hTl : T.size ≤ 70 := by
    have h := spW_len (ints_len (l := [a.who]) (fun v hv => by
    simp only [List.mem_cons, List.mem_nil_iff, or_false] at hv
    rcases hv with rfl
    · exact HB1.out.2.2.1.who
    ))
    rw [hT, bs_size]
    exact Nat.le_trans h (by simp)
  have HB3 := Lib.hid (below_new X2 (.cells #[.int .i64 a.who] 2))
  rw [← hT] at HNS
  have HE : Hid (S ++ T = bs (actT a.con)) := Lib.hid (by
    rw [HS.out, HT.out, bs_append]
    unfold actT actW
    rw [show a.con.kind = 12 from HK.out, spW_line]
    rfl)
  have HSZ : Hid (S.size + T.size = (actT a.con).length) := Lib.hid (by rw [← bs_size, ← HE.out, ByteArray.size_append])
  clear hT
  go_wp2_with fail
  refine HNS.out.mono ?_
  rintro e X3 ⟨rfl, hb⟩
  have HBX := Lib.hid (HB1.out.1.trans ((HX2.out.trans ((HB3.out.trans (hb.mono HB3.out.size)).mono HX2.out.size)).mono HB1.out.1.size))
  clear hb
  have hlen : (actT a.con).length ≤ 65536 := by have := HSZ.out; omega
  have d1 : decide ((65536 : Int) < (S.size + T.size : Nat)) = false := decide_eq_false (by have := HSZ.out; omega)
  have HLEN := Lib.hid hlen
  clear hlen
  go_wp2_with fail
  go_ret2
  refine ⟨.inl ⟨HOK.out, HLEN.out, ?_⟩, HBX.out⟩
  rw [← HE.out]
  rfl
set_option maxRecDepth 100000 in
set_option maxHeartbeats 4000000 in
theorem act51_13 (a : ActM) (w : World) (hat : ActAt w w.heap.size a) (hl : ActL a) (hR : ActR a.con) (hsz0 : actSize a.con ≤ 100000) (hk : a.kind = 13) (hok : ActOk a.con) : Calls Tryz.prog 18 #[actV a] w fun e w' => FmtR (ActOk a.con) (actT a.con) e ∧ Below w.heap.size w w' := by
  obtain ⟨C, hC⟩ : ∃ C, C = (actCs a).toArray := ⟨_, rfl⟩
  have hv : actV a = .agg C := by rw [hC]; rfl
  have hsz : (Tryz.prog.info? 33).map (·.size) = some C.size := by rw [hC]; kernel_rfl
  obtain ⟨W1, hW1⟩ : ∃ W1, W1 = (w.alloc (.cells C 33)) := ⟨_, rfl⟩
  have hrow := new_obj w (.cells C 33)
  have hb1 : Below w.heap.size w W1 := by rw [hW1]; exact below_new _ _
  have hlt1 : w.heap.size < W1.heap.size := by rw [hW1]; simp
  have HC := Lib.hid (show ∀ (j : Nat) (u : Value), (actCs a)[j]? = some u → ∀ X : World, Below W1.heap.size W1 X → X.cell? ⟨w.heap.size, j, none⟩ = some u from fun j u hj X hb => by
    refine (hb.cell (p := ⟨w.heap.size, j, none⟩) hlt1).trans ?_
    rw [hW1, Lib.cell_of_heap hrow, hC]
    simpa using hj)
  have HRA := Lib.hid (rightAct_any a W1 (hat.next hb1) hl)
  rw [tb_true hok] at HRA
  have HAW := Lib.hid (fun X : World => actWord_any 13 X)
  have HOK := Lib.hid hok
  have HB1 := Lib.hid (And.intro hb1 (And.intro hat (And.intro hR hsz0)))
  rw [hv] at HRA ⊢
  have HP0 := Lib.hid (HC.out 0 (.int .i64 13) (by rw [← hk]; rfl))
  have HP1 := Lib.hid (HC.out 1 (.int .i64 a.who) rfl)
  have HK := Lib.hid hk
  clear hC hv hb1 hlt1 HC hok hat hl hR hsz0 hk
  go_enter Tryz.func18, Tryz.ntmps18
  go_wp2_with (refine wpList_load_row_g (by rfl) 33 (.tmp 1) rfl w.heap.size rfl 33 C (0, 0) _ hrow Tryz.underlying33 rfl hsz ?_)
  rw [← hW1]
  clear hrow hW1
  refine HRA.out.mono ?_
  rintro e X1 ⟨rfl, hb⟩
  have HX1 := Lib.hid hb
  have hp0 := HP0.out X1 hb
  clear hb HRA
  go_wp2_with fail
  refine (HAW.out X1).mono ?_
  rintro e X2 ⟨rfl, hb⟩
  have HX2 := Lib.hid (HX1.out.trans (hb.mono HX1.out.size))
  clear hb hp0 HAW
  have hp0 := HP0.out X2 HX2.out
  have hp1 := HP1.out X2 HX2.out
  obtain ⟨S, hS⟩ : ∃ S, S = bs (actN 13) := ⟨_, rfl⟩
  have HS := Lib.hid hS
  have hSl : S.size ≤ 20 := by rw [hS]; decide
  rw [← hS]
  clear hS
  have HNS := Lib.hid (nums51_any [a.who] (fun v hv => by
    simp only [List.mem_cons, List.mem_nil_iff, or_false] at hv
    rcases hv with rfl
    · exact HB1.out.2.2.1.who
    ) (by simp) (some ⟨X2.heap.size, 0, none⟩) 1 (X2.alloc (.cells #[.int .i64 a.who] 2)) (Sl.lit X2 _ 2 rfl))
  obtain ⟨T, hT⟩ : ∃ T, T = bs (spW (([a.who] : List Int).map itoa)) := ⟨_, rfl⟩
  have HT := Lib.hid hT
  have hTl : T.size ≤ 70 := by
    have h := spW_len (ints_len (l := [a.who]) (fun v hv => by
    simp only [List.mem_cons, List.mem_nil_iff, or_false] at hv
    rcases hv with rfl
    · exact HB1.out.2.2.1.who
    ))
    rw [hT, bs_size]
    exact Nat.le_trans h (by simp)
  have HB3 := Lib.hid (below_new X2 (.cells #[.int .i64 a.who] 2))
  rw [← hT] at HNS
  have HE : Hid (S ++ T = bs (actT a.con)) := Lib.hid (by
    rw [HS.out, HT.out, bs_append]
    unfold actT actW
    rw [show a.con.kind = 13 from HK.out, spW_line]
    rfl)
  have HSZ : Hid (S.size + T.size = (actT a.con).length) := Lib.hid (by rw [← bs_size, ← HE.out, ByteArray.size_append])
  clear hT
  go_wp2_with fail
  refine HNS.out.mono ?_
  rintro e X3 ⟨rfl, hb⟩
  have HBX := Lib.hid (HB1.out.1.trans ((HX2.out.trans ((HB3.out.trans (hb.mono HB3.out.size)).mono HX2.out.size)).mono HB1.out.1.size))
  clear hb
  have hlen : (actT a.con).length ≤ 65536 := by have := HSZ.out; omega
  have d1 : decide ((65536 : Int) < (S.size + T.size : Nat)) = false := decide_eq_false (by have := HSZ.out; omega)
  have HLEN := Lib.hid hlen
  clear hlen
  go_wp2_with fail
  go_ret2
  refine ⟨.inl ⟨HOK.out, HLEN.out, ?_⟩, HBX.out⟩
  rw [← HE.out]
  rfl
set_option maxRecDepth 100000 in
set_option maxHeartbeats 4000000 in
theorem act51_14 (a : ActM) (w : World) (hat : ActAt w w.heap.size a) (hl : ActL a) (hR : ActR a.con) (hsz0 : actSize a.con ≤ 100000) (hk : a.kind = 14) (hok : ActOk a.con) : Calls Tryz.prog 18 #[actV a] w fun e w' => FmtR (ActOk a.con) (actT a.con) e ∧ Below w.heap.size w w' := by
  obtain ⟨C, hC⟩ : ∃ C, C = (actCs a).toArray := ⟨_, rfl⟩
  have hv : actV a = .agg C := by rw [hC]; rfl
  have hsz : (Tryz.prog.info? 33).map (·.size) = some C.size := by rw [hC]; kernel_rfl
  obtain ⟨W1, hW1⟩ : ∃ W1, W1 = (w.alloc (.cells C 33)) := ⟨_, rfl⟩
  have hrow := new_obj w (.cells C 33)
  have hb1 : Below w.heap.size w W1 := by rw [hW1]; exact below_new _ _
  have hlt1 : w.heap.size < W1.heap.size := by rw [hW1]; simp
  have HC := Lib.hid (show ∀ (j : Nat) (u : Value), (actCs a)[j]? = some u → ∀ X : World, Below W1.heap.size W1 X → X.cell? ⟨w.heap.size, j, none⟩ = some u from fun j u hj X hb => by
    refine (hb.cell (p := ⟨w.heap.size, j, none⟩) hlt1).trans ?_
    rw [hW1, Lib.cell_of_heap hrow, hC]
    simpa using hj)
  have HRA := Lib.hid (rightAct_any a W1 (hat.next hb1) hl)
  rw [tb_true hok] at HRA
  have HAW := Lib.hid (fun X : World => actWord_any 14 X)
  have HOK := Lib.hid hok
  have HB1 := Lib.hid (And.intro hb1 (And.intro hat (And.intro hR hsz0)))
  rw [hv] at HRA ⊢
  have HP0 := Lib.hid (HC.out 0 (.int .i64 14) (by rw [← hk]; rfl))
  have HP1 := Lib.hid (HC.out 1 (.int .i64 a.who) rfl)
  have HP3 := Lib.hid (HC.out 3 (.int .i64 a.call) rfl)
  have HP2 := Lib.hid (HC.out 2 (.int .i64 a.n) rfl)
  have HK := Lib.hid hk
  clear hC hv hb1 hlt1 HC hok hat hl hR hsz0 hk
  go_enter Tryz.func18, Tryz.ntmps18
  go_wp2_with (refine wpList_load_row_g (by rfl) 33 (.tmp 1) rfl w.heap.size rfl 33 C (0, 0) _ hrow Tryz.underlying33 rfl hsz ?_)
  rw [← hW1]
  clear hrow hW1
  refine HRA.out.mono ?_
  rintro e X1 ⟨rfl, hb⟩
  have HX1 := Lib.hid hb
  have hp0 := HP0.out X1 hb
  clear hb HRA
  go_wp2_with fail
  refine (HAW.out X1).mono ?_
  rintro e X2 ⟨rfl, hb⟩
  have HX2 := Lib.hid (HX1.out.trans (hb.mono HX1.out.size))
  clear hb hp0 HAW
  have hp0 := HP0.out X2 HX2.out
  have hp1 := HP1.out X2 HX2.out
  have hp3 := HP3.out X2 HX2.out
  have hp2 := HP2.out X2 HX2.out
  obtain ⟨S, hS⟩ : ∃ S, S = bs (actN 14) := ⟨_, rfl⟩
  have HS := Lib.hid hS
  have hSl : S.size ≤ 20 := by rw [hS]; decide
  rw [← hS]
  clear hS
  have HNS := Lib.hid (nums51_any [a.who, a.call, a.n] (fun v hv => by
    simp only [List.mem_cons, List.mem_nil_iff, or_false] at hv
    rcases hv with rfl | rfl | rfl
    · exact HB1.out.2.2.1.who
    · exact HB1.out.2.2.1.call
    · exact HB1.out.2.2.1.n
    ) (by simp) (some ⟨X2.heap.size, 0, none⟩) 3 (X2.alloc (.cells #[.int .i64 a.who, .int .i64 a.call, .int .i64 a.n] 2)) (Sl.lit X2 _ 2 rfl))
  obtain ⟨T, hT⟩ : ∃ T, T = bs (spW (([a.who, a.call, a.n] : List Int).map itoa)) := ⟨_, rfl⟩
  have HT := Lib.hid hT
  have hTl : T.size ≤ 70 := by
    have h := spW_len (ints_len (l := [a.who, a.call, a.n]) (fun v hv => by
    simp only [List.mem_cons, List.mem_nil_iff, or_false] at hv
    rcases hv with rfl | rfl | rfl
    · exact HB1.out.2.2.1.who
    · exact HB1.out.2.2.1.call
    · exact HB1.out.2.2.1.n
    ))
    rw [hT, bs_size]
    exact Nat.le_trans h (by simp)
  have HB3 := Lib.hid (below_new X2 (.cells #[.int .i64 a.who, .int .i64 a.call, .int .i64 a.n] 2))
  rw [← hT] at HNS
  have HE : Hid (S ++ T = bs (actT a.con)) := Lib.hid (by
    rw [HS.out, HT.out, bs_append]
    unfold actT actW
    rw [show a.con.kind = 14 from HK.out, spW_line]
    rfl)
  have HSZ : Hid (S.size + T.size = (actT a.con).length) := Lib.hid (by rw [← bs_size, ← HE.out, ByteArray.size_append])
  clear hT
  go_wp2_with fail
  refine HNS.out.mono ?_
  rintro e X3 ⟨rfl, hb⟩
  have HBX := Lib.hid (HB1.out.1.trans ((HX2.out.trans ((HB3.out.trans (hb.mono HB3.out.size)).mono HX2.out.size)).mono HB1.out.1.size))
  clear hb
  have hlen : (actT a.con).length ≤ 65536 := by have := HSZ.out; omega
  have d1 : decide ((65536 : Int) < (S.size + T.size : Nat)) = false := decide_eq_false (by have := HSZ.out; omega)
  have HLEN := Lib.hid hlen
  clear hlen
  go_wp2_with fail
  go_ret2
  refine ⟨.inl ⟨HOK.out, HLEN.out, ?_⟩, HBX.out⟩
  rw [← HE.out]
  rfl
set_option maxRecDepth 100000 in
set_option maxHeartbeats 4000000 in
theorem act51_15 (a : ActM) (w : World) (hat : ActAt w w.heap.size a) (hl : ActL a) (hR : ActR a.con) (hsz0 : actSize a.con ≤ 100000) (hk : a.kind = 15) (hok : ActOk a.con) : Calls Tryz.prog 18 #[actV a] w fun e w' => FmtR (ActOk a.con) (actT a.con) e ∧ Below w.heap.size w w' := by
  obtain ⟨C, hC⟩ : ∃ C, C = (actCs a).toArray := ⟨_, rfl⟩
  have hv : actV a = .agg C := by rw [hC]; rfl
  have hsz : (Tryz.prog.info? 33).map (·.size) = some C.size := by rw [hC]; kernel_rfl
  obtain ⟨W1, hW1⟩ : ∃ W1, W1 = (w.alloc (.cells C 33)) := ⟨_, rfl⟩
  have hrow := new_obj w (.cells C 33)
  have hb1 : Below w.heap.size w W1 := by rw [hW1]; exact below_new _ _
  have hlt1 : w.heap.size < W1.heap.size := by rw [hW1]; simp
  have HC := Lib.hid (show ∀ (j : Nat) (u : Value), (actCs a)[j]? = some u → ∀ X : World, Below W1.heap.size W1 X → X.cell? ⟨w.heap.size, j, none⟩ = some u from fun j u hj X hb => by
    refine (hb.cell (p := ⟨w.heap.size, j, none⟩) hlt1).trans ?_
    rw [hW1, Lib.cell_of_heap hrow, hC]
    simpa using hj)
  have HRA := Lib.hid (rightAct_any a W1 (hat.next hb1) hl)
  rw [tb_true hok] at HRA
  have HAW := Lib.hid (fun X : World => actWord_any 15 X)
  have HOK := Lib.hid hok
  have HB1 := Lib.hid (And.intro hb1 (And.intro hat (And.intro hR hsz0)))
  rw [hv] at HRA ⊢
  have HP0 := Lib.hid (HC.out 0 (.int .i64 15) (by rw [← hk]; rfl))
  have HP1 := Lib.hid (HC.out 1 (.int .i64 a.who) rfl)
  have HP3 := Lib.hid (HC.out 3 (.int .i64 a.call) rfl)
  have HP4 := Lib.hid (HC.out 4 (.int .i64 a.other) rfl)
  have HK := Lib.hid hk
  clear hC hv hb1 hlt1 HC hok hat hl hR hsz0 hk
  go_enter Tryz.func18, Tryz.ntmps18
  go_wp2_with (refine wpList_load_row_g (by rfl) 33 (.tmp 1) rfl w.heap.size rfl 33 C (0, 0) _ hrow Tryz.underlying33 rfl hsz ?_)
  rw [← hW1]
  clear hrow hW1
  refine HRA.out.mono ?_
  rintro e X1 ⟨rfl, hb⟩
  have HX1 := Lib.hid hb
  have hp0 := HP0.out X1 hb
  clear hb HRA
  go_wp2_with fail
  refine (HAW.out X1).mono ?_
  rintro e X2 ⟨rfl, hb⟩
  have HX2 := Lib.hid (HX1.out.trans (hb.mono HX1.out.size))
  clear hb hp0 HAW
  have hp0 := HP0.out X2 HX2.out
  have hp1 := HP1.out X2 HX2.out
  have hp3 := HP3.out X2 HX2.out
  have hp4 := HP4.out X2 HX2.out
  obtain ⟨S, hS⟩ : ∃ S, S = bs (actN 15) := ⟨_, rfl⟩
  have HS := Lib.hid hS
  have hSl : S.size ≤ 20 := by rw [hS]; decide
  rw [← hS]
  clear hS
  have HNS := Lib.hid (nums51_any [a.who, a.call, a.other] (fun v hv => by
    simp only [List.mem_cons, List.mem_nil_iff, or_false] at hv
    rcases hv with rfl | rfl | rfl
    · exact HB1.out.2.2.1.who
    · exact HB1.out.2.2.1.call
    · exact HB1.out.2.2.1.other
    ) (by simp) (some ⟨X2.heap.size, 0, none⟩) 3 (X2.alloc (.cells #[.int .i64 a.who, .int .i64 a.call, .int .i64 a.other] 2)) (Sl.lit X2 _ 2 rfl))
  obtain ⟨T, hT⟩ : ∃ T, T = bs (spW (([a.who, a.call, a.other] : List Int).map itoa)) := ⟨_, rfl⟩
  have HT := Lib.hid hT
  have hTl : T.size ≤ 70 := by
    have h := spW_len (ints_len (l := [a.who, a.call, a.other]) (fun v hv => by
    simp only [List.mem_cons, List.mem_nil_iff, or_false] at hv
    rcases hv with rfl | rfl | rfl
    · exact HB1.out.2.2.1.who
    · exact HB1.out.2.2.1.call
    · exact HB1.out.2.2.1.other
    ))
    rw [hT, bs_size]
    exact Nat.le_trans h (by simp)
  have HB3 := Lib.hid (below_new X2 (.cells #[.int .i64 a.who, .int .i64 a.call, .int .i64 a.other] 2))
  rw [← hT] at HNS
  have HE : Hid (S ++ T = bs (actT a.con)) := Lib.hid (by
    rw [HS.out, HT.out, bs_append]
    unfold actT actW
    rw [show a.con.kind = 15 from HK.out, spW_line]
    rfl)
  have HSZ : Hid (S.size + T.size = (actT a.con).length) := Lib.hid (by rw [← bs_size, ← HE.out, ByteArray.size_append])
  clear hT
  go_wp2_with fail
  refine HNS.out.mono ?_
  rintro e X3 ⟨rfl, hb⟩
  have HBX := Lib.hid (HB1.out.1.trans ((HX2.out.trans ((HB3.out.trans (hb.mono HB3.out.size)).mono HX2.out.size)).mono HB1.out.1.size))
  clear hb
  have hlen : (actT a.con).length ≤ 65536 := by have := HSZ.out; omega
  have d1 : decide ((65536 : Int) < (S.size + T.size : Nat)) = false := decide_eq_false (by have := HSZ.out; omega)
  have HLEN := Lib.hid hlen
  clear hlen
  go_wp2_with fail
  go_ret2
  refine ⟨.inl ⟨HOK.out, HLEN.out, ?_⟩, HBX.out⟩
  rw [← HE.out]
  rfl
set_option maxRecDepth 100000 in
set_option maxHeartbeats 4000000 in
theorem act51_16 (a : ActM) (w : World) (hat : ActAt w w.heap.size a) (hl : ActL a) (hR : ActR a.con) (hsz0 : actSize a.con ≤ 100000) (hk : a.kind = 16) (hok : ActOk a.con) : Calls Tryz.prog 18 #[actV a] w fun e w' => FmtR (ActOk a.con) (actT a.con) e ∧ Below w.heap.size w w' := by
  obtain ⟨C, hC⟩ : ∃ C, C = (actCs a).toArray := ⟨_, rfl⟩
  have hv : actV a = .agg C := by rw [hC]; rfl
  have hsz : (Tryz.prog.info? 33).map (·.size) = some C.size := by rw [hC]; kernel_rfl
  obtain ⟨W1, hW1⟩ : ∃ W1, W1 = (w.alloc (.cells C 33)) := ⟨_, rfl⟩
  have hrow := new_obj w (.cells C 33)
  have hb1 : Below w.heap.size w W1 := by rw [hW1]; exact below_new _ _
  have hlt1 : w.heap.size < W1.heap.size := by rw [hW1]; simp
  have HC := Lib.hid (show ∀ (j : Nat) (u : Value), (actCs a)[j]? = some u → ∀ X : World, Below W1.heap.size W1 X → X.cell? ⟨w.heap.size, j, none⟩ = some u from fun j u hj X hb => by
    refine (hb.cell (p := ⟨w.heap.size, j, none⟩) hlt1).trans ?_
    rw [hW1, Lib.cell_of_heap hrow, hC]
    simpa using hj)
  have HRA := Lib.hid (rightAct_any a W1 (hat.next hb1) hl)
  rw [tb_true hok] at HRA
  have HAW := Lib.hid (fun X : World => actWord_any 16 X)
  have HOK := Lib.hid hok
  have HB1 := Lib.hid (And.intro hb1 (And.intro hat (And.intro hR hsz0)))
  rw [hv] at HRA ⊢
  have HP0 := Lib.hid (HC.out 0 (.int .i64 16) (by rw [← hk]; rfl))
  have HP1 := Lib.hid (HC.out 1 (.int .i64 a.who) rfl)
  have HP3 := Lib.hid (HC.out 3 (.int .i64 a.call) rfl)
  have HP4 := Lib.hid (HC.out 4 (.int .i64 a.other) rfl)
  have HK := Lib.hid hk
  clear hC hv hb1 hlt1 HC hok hat hl hR hsz0 hk
  go_enter Tryz.func18, Tryz.ntmps18
  go_wp2_with (refine wpList_load_row_g (by rfl) 33 (.tmp 1) rfl w.heap.size rfl 33 C (0, 0) _ hrow Tryz.underlying33 rfl hsz ?_)
  rw [← hW1]
  clear hrow hW1
  refine HRA.out.mono ?_
  rintro e X1 ⟨rfl, hb⟩
  have HX1 := Lib.hid hb
  have hp0 := HP0.out X1 hb
  clear hb HRA
  go_wp2_with fail
  refine (HAW.out X1).mono ?_
  rintro e X2 ⟨rfl, hb⟩
  have HX2 := Lib.hid (HX1.out.trans (hb.mono HX1.out.size))
  clear hb hp0 HAW
  have hp0 := HP0.out X2 HX2.out
  have hp1 := HP1.out X2 HX2.out
  have hp3 := HP3.out X2 HX2.out
  have hp4 := HP4.out X2 HX2.out
  obtain ⟨S, hS⟩ : ∃ S, S = bs (actN 16) := ⟨_, rfl⟩
  have HS := Lib.hid hS
  have hSl : S.size ≤ 20 := by rw [hS]; decide
  rw [← hS]
  clear hS
  have HNS := Lib.hid (nums51_any [a.who, a.call, a.other] (fun v hv => by
    simp only [List.mem_cons, List.mem_nil_iff, or_false] at hv
    rcases hv with rfl | rfl | rfl
    · exact HB1.out.2.2.1.who
    · exact HB1.out.2.2.1.call
    · exact HB1.out.2.2.1.other
    ) (by simp) (some ⟨X2.heap.size, 0, none⟩) 3 (X2.alloc (.cells #[.int .i64 a.who, .int .i64 a.call, .int .i64 a.other] 2)) (Sl.lit X2 _ 2 rfl))
  obtain ⟨T, hT⟩ : ∃ T, T = bs (spW (([a.who, a.call, a.other] : List Int).map itoa)) := ⟨_, rfl⟩
  have HT := Lib.hid hT
  have hTl : T.size ≤ 70 := by
    have h := spW_len (ints_len (l := [a.who, a.call, a.other]) (fun v hv => by
    simp only [List.mem_cons, List.mem_nil_iff, or_false] at hv
    rcases hv with rfl | rfl | rfl
    · exact HB1.out.2.2.1.who
    · exact HB1.out.2.2.1.call
    · exact HB1.out.2.2.1.other
    ))
    rw [hT, bs_size]
    exact Nat.le_trans h (by simp)
  have HB3 := Lib.hid (below_new X2 (.cells #[.int .i64 a.who, .int .i64 a.call, .int .i64 a.other] 2))
  rw [← hT] at HNS
  have HE : Hid (S ++ T = bs (actT a.con)) := Lib.hid (by
    rw [HS.out, HT.out, bs_append]
    unfold actT actW
    rw [show a.con.kind = 16 from HK.out, spW_line]
    rfl)
  have HSZ : Hid (S.size + T.size = (actT a.con).length) := Lib.hid (by rw [← bs_size, ← HE.out, ByteArray.size_append])
  clear hT
  go_wp2_with fail
  refine HNS.out.mono ?_
  rintro e X3 ⟨rfl, hb⟩
  have HBX := Lib.hid (HB1.out.1.trans ((HX2.out.trans ((HB3.out.trans (hb.mono HB3.out.size)).mono HX2.out.size)).mono HB1.out.1.size))
  clear hb
  have hlen : (actT a.con).length ≤ 65536 := by have := HSZ.out; omega
  have d1 : decide ((65536 : Int) < (S.size + T.size : Nat)) = false := decide_eq_false (by have := HSZ.out; omega)
  have HLEN := Lib.hid hlen
  clear hlen
  go_wp2_with fail
  go_ret2
  refine ⟨.inl ⟨HOK.out, HLEN.out, ?_⟩, HBX.out⟩
  rw [← HE.out]
  rfl
set_option maxRecDepth 100000 in
set_option maxHeartbeats 4000000 in
theorem act51_17 (a : ActM) (w : World) (hat : ActAt w w.heap.size a) (hl : ActL a) (hR : ActR a.con) (hsz0 : actSize a.con ≤ 100000) (hk : a.kind = 17) (hok : ActOk a.con) : Calls Tryz.prog 18 #[actV a] w fun e w' => FmtR (ActOk a.con) (actT a.con) e ∧ Below w.heap.size w w' := by
  obtain ⟨C, hC⟩ : ∃ C, C = (actCs a).toArray := ⟨_, rfl⟩
  have hv : actV a = .agg C := by rw [hC]; rfl
  have hsz : (Tryz.prog.info? 33).map (·.size) = some C.size := by rw [hC]; kernel_rfl
  obtain ⟨W1, hW1⟩ : ∃ W1, W1 = (w.alloc (.cells C 33)) := ⟨_, rfl⟩
  have hrow := new_obj w (.cells C 33)
  have hb1 : Below w.heap.size w W1 := by rw [hW1]; exact below_new _ _
  have hlt1 : w.heap.size < W1.heap.size := by rw [hW1]; simp
  have HC := Lib.hid (show ∀ (j : Nat) (u : Value), (actCs a)[j]? = some u → ∀ X : World, Below W1.heap.size W1 X → X.cell? ⟨w.heap.size, j, none⟩ = some u from fun j u hj X hb => by
    refine (hb.cell (p := ⟨w.heap.size, j, none⟩) hlt1).trans ?_
    rw [hW1, Lib.cell_of_heap hrow, hC]
    simpa using hj)
  have HRA := Lib.hid (rightAct_any a W1 (hat.next hb1) hl)
  rw [tb_true hok] at HRA
  have HAW := Lib.hid (fun X : World => actWord_any 17 X)
  have HOK := Lib.hid hok
  have HB1 := Lib.hid (And.intro hb1 (And.intro hat (And.intro hR hsz0)))
  rw [hv] at HRA ⊢
  have HP0 := Lib.hid (HC.out 0 (.int .i64 17) (by rw [← hk]; rfl))
  have HP1 := Lib.hid (HC.out 1 (.int .i64 a.who) rfl)
  have HP3 := Lib.hid (HC.out 3 (.int .i64 a.call) rfl)
  have HK := Lib.hid hk
  clear hC hv hb1 hlt1 HC hok hat hl hR hsz0 hk
  go_enter Tryz.func18, Tryz.ntmps18
  go_wp2_with (refine wpList_load_row_g (by rfl) 33 (.tmp 1) rfl w.heap.size rfl 33 C (0, 0) _ hrow Tryz.underlying33 rfl hsz ?_)
  rw [← hW1]
  clear hrow hW1
  refine HRA.out.mono ?_
  rintro e X1 ⟨rfl, hb⟩
  have HX1 := Lib.hid hb
  have hp0 := HP0.out X1 hb
  clear hb HRA
  go_wp2_with fail
  refine (HAW.out X1).mono ?_
  rintro e X2 ⟨rfl, hb⟩
  have HX2 := Lib.hid (HX1.out.trans (hb.mono HX1.out.size))
  clear hb hp0 HAW
  have hp0 := HP0.out X2 HX2.out
  have hp1 := HP1.out X2 HX2.out
  have hp3 := HP3.out X2 HX2.out
  obtain ⟨S, hS⟩ : ∃ S, S = bs (actN 17) := ⟨_, rfl⟩
  have HS := Lib.hid hS
  have hSl : S.size ≤ 20 := by rw [hS]; decide
  rw [← hS]
  clear hS
  have HNS := Lib.hid (nums51_any [a.who, a.call] (fun v hv => by
    simp only [List.mem_cons, List.mem_nil_iff, or_false] at hv
    rcases hv with rfl | rfl
    · exact HB1.out.2.2.1.who
    · exact HB1.out.2.2.1.call
    ) (by simp) (some ⟨X2.heap.size, 0, none⟩) 2 (X2.alloc (.cells #[.int .i64 a.who, .int .i64 a.call] 2)) (Sl.lit X2 _ 2 rfl))
  obtain ⟨T, hT⟩ : ∃ T, T = bs (spW (([a.who, a.call] : List Int).map itoa)) := ⟨_, rfl⟩
  have HT := Lib.hid hT
  have hTl : T.size ≤ 70 := by
    have h := spW_len (ints_len (l := [a.who, a.call]) (fun v hv => by
    simp only [List.mem_cons, List.mem_nil_iff, or_false] at hv
    rcases hv with rfl | rfl
    · exact HB1.out.2.2.1.who
    · exact HB1.out.2.2.1.call
    ))
    rw [hT, bs_size]
    exact Nat.le_trans h (by simp)
  have HB3 := Lib.hid (below_new X2 (.cells #[.int .i64 a.who, .int .i64 a.call] 2))
  rw [← hT] at HNS
  have HE : Hid (S ++ T = bs (actT a.con)) := Lib.hid (by
    rw [HS.out, HT.out, bs_append]
    unfold actT actW
    rw [show a.con.kind = 17 from HK.out, spW_line]
    rfl)
  have HSZ : Hid (S.size + T.size = (actT a.con).length) := Lib.hid (by rw [← bs_size, ← HE.out, ByteArray.size_append])
  clear hT
  go_wp2_with fail
  refine HNS.out.mono ?_
  rintro e X3 ⟨rfl, hb⟩
  have HBX := Lib.hid (HB1.out.1.trans ((HX2.out.trans ((HB3.out.trans (hb.mono HB3.out.size)).mono HX2.out.size)).mono HB1.out.1.size))
  clear hb
  have hlen : (actT a.con).length ≤ 65536 := by have := HSZ.out; omega
  have d1 : decide ((65536 : Int) < (S.size + T.size : Nat)) = false := decide_eq_false (by have := HSZ.out; omega)
  have HLEN := Lib.hid hlen
  clear hlen
  go_wp2_with fail
  go_ret2
  refine ⟨.inl ⟨HOK.out, HLEN.out, ?_⟩, HBX.out⟩
  rw [← HE.out]
  rfl
set_option maxRecDepth 100000 in
set_option maxHeartbeats 4000000 in
theorem act51_18 (a : ActM) (w : World) (hat : ActAt w w.heap.size a) (hl : ActL a) (hR : ActR a.con) (hsz0 : actSize a.con ≤ 100000) (hk : a.kind = 18) (hok : ActOk a.con) : Calls Tryz.prog 18 #[actV a] w fun e w' => FmtR (ActOk a.con) (actT a.con) e ∧ Below w.heap.size w w' := by
  obtain ⟨C, hC⟩ : ∃ C, C = (actCs a).toArray := ⟨_, rfl⟩
  have hv : actV a = .agg C := by rw [hC]; rfl
  have hsz : (Tryz.prog.info? 33).map (·.size) = some C.size := by rw [hC]; kernel_rfl
  obtain ⟨W1, hW1⟩ : ∃ W1, W1 = (w.alloc (.cells C 33)) := ⟨_, rfl⟩
  have hrow := new_obj w (.cells C 33)
  have hb1 : Below w.heap.size w W1 := by rw [hW1]; exact below_new _ _
  have hlt1 : w.heap.size < W1.heap.size := by rw [hW1]; simp
  have HC := Lib.hid (show ∀ (j : Nat) (u : Value), (actCs a)[j]? = some u → ∀ X : World, Below W1.heap.size W1 X → X.cell? ⟨w.heap.size, j, none⟩ = some u from fun j u hj X hb => by
    refine (hb.cell (p := ⟨w.heap.size, j, none⟩) hlt1).trans ?_
    rw [hW1, Lib.cell_of_heap hrow, hC]
    simpa using hj)
  have HRA := Lib.hid (rightAct_any a W1 (hat.next hb1) hl)
  rw [tb_true hok] at HRA
  have HAW := Lib.hid (fun X : World => actWord_any 18 X)
  have HOK := Lib.hid hok
  have HB1 := Lib.hid (And.intro hb1 (And.intro hat (And.intro hR hsz0)))
  rw [hv] at HRA ⊢
  have HP0 := Lib.hid (HC.out 0 (.int .i64 18) (by rw [← hk]; rfl))
  have HP1 := Lib.hid (HC.out 1 (.int .i64 a.who) rfl)
  have HP2 := Lib.hid (HC.out 2 (.int .i64 a.n) rfl)
  have HK := Lib.hid hk
  clear hC hv hb1 hlt1 HC hok hat hl hR hsz0 hk
  go_enter Tryz.func18, Tryz.ntmps18
  go_wp2_with (refine wpList_load_row_g (by rfl) 33 (.tmp 1) rfl w.heap.size rfl 33 C (0, 0) _ hrow Tryz.underlying33 rfl hsz ?_)
  rw [← hW1]
  clear hrow hW1
  refine HRA.out.mono ?_
  rintro e X1 ⟨rfl, hb⟩
  have HX1 := Lib.hid hb
  have hp0 := HP0.out X1 hb
  clear hb HRA
  go_wp2_with fail
  refine (HAW.out X1).mono ?_
  rintro e X2 ⟨rfl, hb⟩
  have HX2 := Lib.hid (HX1.out.trans (hb.mono HX1.out.size))
  clear hb hp0 HAW
  have hp0 := HP0.out X2 HX2.out
  have hp1 := HP1.out X2 HX2.out
  have hp2 := HP2.out X2 HX2.out
  obtain ⟨S, hS⟩ : ∃ S, S = bs (actN 18) := ⟨_, rfl⟩
  have HS := Lib.hid hS
  have hSl : S.size ≤ 20 := by rw [hS]; decide
  rw [← hS]
  clear hS
  have HNS := Lib.hid (nums51_any [a.who, a.n] (fun v hv => by
    simp only [List.mem_cons, List.mem_nil_iff, or_false] at hv
    rcases hv with rfl | rfl
    · exact HB1.out.2.2.1.who
    · exact HB1.out.2.2.1.n
    ) (by simp) (some ⟨X2.heap.size, 0, none⟩) 2 (X2.alloc (.cells #[.int .i64 a.who, .int .i64 a.n] 2)) (Sl.lit X2 _ 2 rfl))
  obtain ⟨T, hT⟩ : ∃ T, T = bs (spW (([a.who, a.n] : List Int).map itoa)) := ⟨_, rfl⟩
  have HT := Lib.hid hT
  have hTl : T.size ≤ 70 := by
    have h := spW_len (ints_len (l := [a.who, a.n]) (fun v hv => by
    simp only [List.mem_cons, List.mem_nil_iff, or_false] at hv
    rcases hv with rfl | rfl
    · exact HB1.out.2.2.1.who
    · exact HB1.out.2.2.1.n
    ))
    rw [hT, bs_size]
    exact Nat.le_trans h (by simp)
  have HB3 := Lib.hid (below_new X2 (.cells #[.int .i64 a.who, .int .i64 a.n] 2))
  rw [← hT] at HNS
  have HE : Hid (S ++ T = bs (actT a.con)) := Lib.hid (by
    rw [HS.out, HT.out, bs_append]
    unfold actT actW
    rw [show a.con.kind = 18 from HK.out, spW_line]
    rfl)
  have HSZ : Hid (S.size + T.size = (actT a.con).length) := Lib.hid (by rw [← bs_size, ← HE.out, ByteArray.size_append])
  clear hT
  go_wp2_with fail
  refine HNS.out.mono ?_
  rintro e X3 ⟨rfl, hb⟩
  have HBX := Lib.hid (HB1.out.1.trans ((HX2.out.trans ((HB3.out.trans (hb.mono HB3.out.size)).mono HX2.out.size)).mono HB1.out.1.size))
  clear hb
  have hlen : (actT a.con).length ≤ 65536 := by have := HSZ.out; omega
  have d1 : decide ((65536 : Int) < (S.size + T.size : Nat)) = false := decide_eq_false (by have := HSZ.out; omega)
  have HLEN := Lib.hid hlen
  clear hlen
  go_wp2_with fail
  go_ret2
  refine ⟨.inl ⟨HOK.out, HLEN.out, ?_⟩, HBX.out⟩
  rw [← HE.out]
  rfl
set_option maxRecDepth 100000 in
set_option maxHeartbeats 4000000 in
theorem act51_19 (a : ActM) (w : World) (hat : ActAt w w.heap.size a) (hl : ActL a) (hR : ActR a.con) (hsz0 : actSize a.con ≤ 100000) (hk : a.kind = 19) (hok : ActOk a.con) : Calls Tryz.prog 18 #[actV a] w fun e w' => FmtR (ActOk a.con) (actT a.con) e ∧ Below w.heap.size w w' := by
  obtain ⟨C, hC⟩ : ∃ C, C = (actCs a).toArray := ⟨_, rfl⟩
  have hv : actV a = .agg C := by rw [hC]; rfl
  have hsz : (Tryz.prog.info? 33).map (·.size) = some C.size := by rw [hC]; kernel_rfl
  obtain ⟨W1, hW1⟩ : ∃ W1, W1 = (w.alloc (.cells C 33)) := ⟨_, rfl⟩
  have hrow := new_obj w (.cells C 33)
  have hb1 : Below w.heap.size w W1 := by rw [hW1]; exact below_new _ _
  have hlt1 : w.heap.size < W1.heap.size := by rw [hW1]; simp
  have HC := Lib.hid (show ∀ (j : Nat) (u : Value), (actCs a)[j]? = some u → ∀ X : World, Below W1.heap.size W1 X → X.cell? ⟨w.heap.size, j, none⟩ = some u from fun j u hj X hb => by
    refine (hb.cell (p := ⟨w.heap.size, j, none⟩) hlt1).trans ?_
    rw [hW1, Lib.cell_of_heap hrow, hC]
    simpa using hj)
  have HRA := Lib.hid (rightAct_any a W1 (hat.next hb1) hl)
  rw [tb_true hok] at HRA
  have HAW := Lib.hid (fun X : World => actWord_any 19 X)
  have HOK := Lib.hid hok
  have HB1 := Lib.hid (And.intro hb1 (And.intro hat (And.intro hR hsz0)))
  rw [hv] at HRA ⊢
  have HP0 := Lib.hid (HC.out 0 (.int .i64 19) (by rw [← hk]; rfl))
  have HP1 := Lib.hid (HC.out 1 (.int .i64 a.who) rfl)
  have HP2 := Lib.hid (HC.out 2 (.int .i64 a.n) rfl)
  have HP5 := Lib.hid (HC.out 5 (.int .i64 a.node) rfl)
  have HK := Lib.hid hk
  clear hC hv hb1 hlt1 HC hok hat hl hR hsz0 hk
  go_enter Tryz.func18, Tryz.ntmps18
  go_wp2_with (refine wpList_load_row_g (by rfl) 33 (.tmp 1) rfl w.heap.size rfl 33 C (0, 0) _ hrow Tryz.underlying33 rfl hsz ?_)
  rw [← hW1]
  clear hrow hW1
  refine HRA.out.mono ?_
  rintro e X1 ⟨rfl, hb⟩
  have HX1 := Lib.hid hb
  have hp0 := HP0.out X1 hb
  clear hb HRA
  go_wp2_with fail
  refine (HAW.out X1).mono ?_
  rintro e X2 ⟨rfl, hb⟩
  have HX2 := Lib.hid (HX1.out.trans (hb.mono HX1.out.size))
  clear hb hp0 HAW
  have hp0 := HP0.out X2 HX2.out
  have hp1 := HP1.out X2 HX2.out
  have hp2 := HP2.out X2 HX2.out
  have hp5 := HP5.out X2 HX2.out
  obtain ⟨S, hS⟩ : ∃ S, S = bs (actN 19) := ⟨_, rfl⟩
  have HS := Lib.hid hS
  have hSl : S.size ≤ 20 := by rw [hS]; decide
  rw [← hS]
  clear hS
  have HNS := Lib.hid (nums51_any [a.who, a.n, a.node] (fun v hv => by
    simp only [List.mem_cons, List.mem_nil_iff, or_false] at hv
    rcases hv with rfl | rfl | rfl
    · exact HB1.out.2.2.1.who
    · exact HB1.out.2.2.1.n
    · exact HB1.out.2.2.1.node
    ) (by simp) (some ⟨X2.heap.size, 0, none⟩) 3 (X2.alloc (.cells #[.int .i64 a.who, .int .i64 a.n, .int .i64 a.node] 2)) (Sl.lit X2 _ 2 rfl))
  obtain ⟨T, hT⟩ : ∃ T, T = bs (spW (([a.who, a.n, a.node] : List Int).map itoa)) := ⟨_, rfl⟩
  have HT := Lib.hid hT
  have hTl : T.size ≤ 70 := by
    have h := spW_len (ints_len (l := [a.who, a.n, a.node]) (fun v hv => by
    simp only [List.mem_cons, List.mem_nil_iff, or_false] at hv
    rcases hv with rfl | rfl | rfl
    · exact HB1.out.2.2.1.who
    · exact HB1.out.2.2.1.n
    · exact HB1.out.2.2.1.node
    ))
    rw [hT, bs_size]
    exact Nat.le_trans h (by simp)
  have HB3 := Lib.hid (below_new X2 (.cells #[.int .i64 a.who, .int .i64 a.n, .int .i64 a.node] 2))
  rw [← hT] at HNS
  have HE : Hid (S ++ T = bs (actT a.con)) := Lib.hid (by
    rw [HS.out, HT.out, bs_append]
    unfold actT actW
    rw [show a.con.kind = 19 from HK.out, spW_line]
    rfl)
  have HSZ : Hid (S.size + T.size = (actT a.con).length) := Lib.hid (by rw [← bs_size, ← HE.out, ByteArray.size_append])
  clear hT
  go_wp2_with fail
  refine HNS.out.mono ?_
  rintro e X3 ⟨rfl, hb⟩
  have HBX := Lib.hid (HB1.out.1.trans ((HX2.out.trans ((HB3.out.trans (hb.mono HB3.out.size)).mono HX2.out.size)).mono HB1.out.1.size))
  clear hb
  have hlen : (actT a.con).length ≤ 65536 := by have := HSZ.out; omega
  have d1 : decide ((65536 : Int) < (S.size + T.size : Nat)) = false := decide_eq_false (by have := HSZ.out; omega)
  have HLEN := Lib.hid hlen
  clear hlen
  go_wp2_with fail
  go_ret2
  refine ⟨.inl ⟨HOK.out, HLEN.out, ?_⟩, HBX.out⟩
  rw [← HE.out]
  rfl
end
section
open Go.RowKit Go.Maps
open Go.Lib (itoa)

theorem srcW_len (l : List SrcC) : (l.flatMap srcW).length ≤ 2 * (l.map (fun s => s.nodes.length + 1)).sum := by
  induction l with
  | nil => simp
  | cons s r ih =>
    rw [List.flatMap_cons, List.length_append, List.map_cons, List.sum_cons]
    have e : (srcW s).length = s.nodes.length + 2 := by simp [srcW, listW]
    omega
theorem srcW_small {l : List SrcC} (h : ∀ s ∈ l, Is64 s.kind ∧ s.nodes.length ≤ 1099511627776 ∧ ∀ v ∈ s.nodes, Is64 v) : ∀ x ∈ l.flatMap srcW, x.length ≤ 21 := fun x hx => by
  obtain ⟨s, hs, hx⟩ := List.mem_flatMap.1 hx
  obtain ⟨h1, h2, h3⟩ := h s hs
  unfold srcW listW at hx
  rcases List.mem_cons.1 hx with rfl | hx
  · exact itoa_len h1
  rcases List.mem_cons.1 hx with rfl | hx
  · exact itoa_len (by unfold Is64; omega)
  · obtain ⟨v, hv, rfl⟩ := List.mem_map.1 hx
    exact itoa_len (h3 v hv)
theorem sum_take (l : List SrcC) (k : Nat) : ((l.take k).map (fun s => s.nodes.length + 1)).sum ≤ (l.map (fun s => s.nodes.length + 1)).sum := by
  have h : (l.map (fun s => s.nodes.length + 1)).sum = ((l.take k).map (fun s => s.nodes.length + 1)).sum + ((l.drop k).map (fun s => s.nodes.length + 1)).sum := by
    conv => lhs; rw [← List.take_append_drop k l]
    rw [List.map_append, List.sum_append]
  omega
/-- the text of a dial so far. -/
def dialW (a : ActC) (k : Nat) : Wd := actN 1 ++ spW (itoa a.node :: itoa a.srcs.length :: (a.srcs.take k).flatMap srcW)
theorem dialW_len {a : ActC} (hR : ActR a) (hsz : actSize a ≤ 100000) (k : Nat) : (dialW a k).length ≤ 5000000 := by
  unfold dialW
  have h1 : ∀ x ∈ (itoa a.node :: itoa a.srcs.length :: (a.srcs.take k).flatMap srcW), x.length ≤ 21 := fun x hx => by
    rcases List.mem_cons.1 hx with rfl | hx
    · exact itoa_len hR.node
    rcases List.mem_cons.1 hx with rfl | hx
    · exact itoa_len (by have := hR.slen; unfold Is64; omega)
    · exact srcW_small (fun s hs => hR.srcs s (List.mem_of_mem_take hs)) x hx
  have h2 := spW_len h1
  have h3 := srcW_len (a.srcs.take k)
  have h4 := sum_take a.srcs k
  have h5 : (a.srcs.map (fun s => s.nodes.length + 1)).sum ≤ 100000 := by unfold actSize at hsz; omega
  have h6 : (actN 1).length = 4 := rfl
  rw [List.length_append, h6]
  rw [List.length_cons, List.length_cons] at h2
  have h7 := Nat.mul_le_mul (show ((a.srcs.take k).flatMap srcW).length + 1 + 1 ≤ 200002 by omega) (Nat.le_refl (21 + 1))
  omega
theorem dialW_next {a : ActC} {k : Nat} {s : SrcC} (h : a.srcs[k]? = some s) : dialW a (k + 1) = dialW a k ++ spW [itoa s.kind] ++ spW (listW s.nodes) := by
  unfold dialW
  rw [take_snoc h, List.flatMap_append, ← List.cons_append, ← List.cons_append, spW_app, List.append_assoc, List.append_assoc]
  congr 2
  simp only [List.flatMap_cons, List.flatMap_nil, List.append_nil]
  show spW ([itoa s.kind] ++ listW s.nodes) = _
  rw [spW_app]
theorem dialW_all {a : ActC} (hk : a.kind = 1) : dialW a a.srcs.length = actT a := by
  unfold dialW actT actW
  rw [hk, spW_line, List.take_length, show (actF 1).flatMap (aW a) = itoa a.node :: itoa a.srcs.length :: a.srcs.flatMap srcW from by
    show [itoa a.node] ++ ((itoa a.srcs.length :: a.srcs.flatMap srcW) ++ []) = _
    rw [List.append_nil]
    rfl]
set_option maxRecDepth 100000 in
set_option maxHeartbeats 4000000 in
theorem act51_1 (a : ActM) (w : World) (hat : ActAt w w.heap.size a) (hl : ActL a) (hR : ActR a.con) (hsz0 : actSize a.con ≤ 100000) (hk : a.kind = 1) (hok : ActOk a.con) : Calls Tryz.prog 18 #[actV a] w fun e w' => FmtR (ActOk a.con) (actT a.con) e ∧ Below w.heap.size w w' := by
  obtain ⟨C, hC⟩ : ∃ C, C = (actCs a).toArray := ⟨_, rfl⟩
  have hv : actV a = .agg C := by rw [hC]; rfl
  have hsz : (Tryz.prog.info? 33).map (·.size) = some C.size := by rw [hC]; kernel_rfl
  obtain ⟨W1, hW1⟩ : ∃ W1, W1 = (w.alloc (.cells C 33)) := ⟨_, rfl⟩
  have hrow := new_obj w (.cells C 33)
  have hb1 : Below w.heap.size w W1 := by rw [hW1]; exact below_new _ _
  have hlt1 : w.heap.size < W1.heap.size := by rw [hW1]; simp
  have HC := Lib.hid (show ∀ (j : Nat) (u : Value), (actCs a)[j]? = some u → ∀ X : World, Below W1.heap.size W1 X → X.cell? ⟨w.heap.size, j, none⟩ = some u from fun j u hj X hb => by
    refine (hb.cell (p := ⟨w.heap.size, j, none⟩) hlt1).trans ?_
    rw [hW1, Lib.cell_of_heap hrow, hC]
    simpa using hj)
  have HRA := Lib.hid (rightAct_any a W1 (hat.next hb1) hl)
  rw [tb_true hok] at HRA
  have HAW := Lib.hid (fun X : World => actWord_any 1 X)
  have HOK := Lib.hid hok
  have HB1 := Lib.hid (And.intro hb1 (And.intro hat (And.intro hR hsz0)))
  rw [hv] at HRA ⊢
  have HP0 := Lib.hid (HC.out 0 (.int .i64 1) (by rw [← hk]; rfl))
  have HP1 := Lib.hid (HC.out 1 (.int .i64 a.who) rfl)
  have HP5 := Lib.hid (HC.out 5 (.int .i64 a.node) rfl)
  have HP6 := Lib.hid (HC.out 6 (.slice a.sA a.srcs.length a.sc) rfl)
  have HK := Lib.hid hk
  clear hC hv hb1 hlt1 HC hok hat hl hR hsz0 hk
  go_enter Tryz.func18, Tryz.ntmps18
  go_wp2_with (refine wpList_load_row_g (by rfl) 33 (.tmp 1) rfl w.heap.size rfl 33 C (0, 0) _ hrow Tryz.underlying33 rfl hsz ?_)
  rw [← hW1]
  clear hrow hW1
  refine HRA.out.mono ?_
  rintro e X1 ⟨rfl, hb⟩
  have HX1 := Lib.hid hb
  have hp0 := HP0.out X1 hb
  clear hb HRA
  go_wp2_with fail
  refine (HAW.out X1).mono ?_
  rintro e X2 ⟨rfl, hb⟩
  have HX2 := Lib.hid (HX1.out.trans (hb.mono HX1.out.size))
  clear hb hp0 HAW
  have hp0 := HP0.out X2 HX2.out
  have hp1 := HP1.out X2 HX2.out
  have hp5 := HP5.out X2 HX2.out
  have hp6 := HP6.out X2 HX2.out
  obtain ⟨S, hS⟩ : ∃ S, S = bs (actN 1) := ⟨_, rfl⟩
  have HS := Lib.hid hS
  have hSl : S.size ≤ 20 := by rw [hS]; decide
  rw [← hS]
  clear hS
  obtain ⟨n, hn⟩ : ∃ n, n = a.srcs.length := ⟨_, rfl⟩
  rw [← hn] at hp6 HP6
  have hnl : n ≤ 100000 := by have := (size_parts HB1.out.2.2.2).2.1; omega
  have HNN := Lib.hid hn
  clear hn
  have HNS := Lib.hid (nums51_any [a.node, (n : Int)] (fun v hv => by
    simp only [List.mem_cons, List.mem_nil_iff, or_false] at hv
    rcases hv with rfl | rfl
    · exact HB1.out.2.2.1.node
    · unfold Is64; omega) (by simp) (some ⟨X2.heap.size, 0, none⟩) 2 (X2.alloc (.cells #[.int .i64 a.node, .int .i64 n] 2)) (Sl.lit X2 _ 2 rfl))
  obtain ⟨T, hT⟩ : ∃ T, T = bs (spW (([a.node, (n : Int)] : List Int).map itoa)) := ⟨_, rfl⟩
  have HT := Lib.hid hT
  have hTl : T.size ≤ 70 := by
    have h := spW_len (ints_len (l := [a.node, (n : Int)]) (fun v hv => by
      simp only [List.mem_cons, List.mem_nil_iff, or_false] at hv
      rcases hv with rfl | rfl
      · exact HB1.out.2.2.1.node
      · unfold Is64; omega))
    rw [hT, bs_size]
    exact Nat.le_trans h (by simp)
  have HB3 := Lib.hid (below_new X2 (.cells #[.int .i64 a.node, .int .i64 n] 2))
  rw [← hT] at HNS
  have HE : Hid (S ++ T = bs (dialW a.con 0)) := Lib.hid (by
    rw [HS.out, HT.out, bs_append, HNN.out]
    unfold dialW
    show _ = bs (actN 1 ++ spW [itoa a.con.node, itoa a.con.srcs.length])
    rw [show a.con.srcs.length = a.srcs.length from List.length_map _]
    rfl)
  clear hT
  go_wp2_with fail
  refine HNS.out.mono ?_
  rintro e X3 ⟨rfl, hb⟩
  have HX3 := Lib.hid (HX2.out.trans ((HB3.out.trans (hb.mono HB3.out.size)).mono HX2.out.size))
  have HSR := Lib.hid (show ∀ X : World, Below W1.heap.size W1 X → SrcsAt X w.heap.size a.sA a.srcs from fun X hx => HB1.out.2.1.srcs.below (HB1.out.1.trans (hx.mono HB1.out.1.size)))
  clear hb hp0 hp1 hp5 hp6 HNS
  go_wp2_with fail
  go_loopw [4, 6] (fun sv iv X => ∃ (k : Nat) (s : ByteArray), k ≤ n ∧ iv = .int .i64 k ∧ sv = .string s ∧ s = bs (dialW a.con k) ∧ Below W1.heap.size W1 X) (fun _ iv _ => n - (intOf iv).toNat)
  case atStart => exact ⟨0, _, Nat.zero_le _, rfl, rfl, HE.out, HX3.out⟩
  case round =>
    obtain ⟨k, s, hk, rfl, rfl, hs, hb⟩ := hrel
    have HD := Lib.hid (And.intro hs hb)
    have hsl : s.size ≤ 5000000 := by rw [hs, bs_size]; exact dialW_len HB1.out.2.2.1 HB1.out.2.2.2 k
    have hp6 := HP6.out wr hb
    clear hs hb
    by_cases hlt : k < n
    · have hlt' : (k : Int) < (n : Int) := by omega
      obtain ⟨x, hx⟩ : ∃ x, a.srcs[k]? = some x := ⟨a.srcs[k]'(by have := HNN.out; omega), by simp⟩
      have HX := Lib.hid hx
      obtain ⟨ab, ao, hA, hab, x0, x1⟩ := src_at (HSR.out wr HD.out.2).row hx
      have hxw := HB1.out.2.2.1.srcs x.con (List.mem_map_of_mem (f := SrcM.con) (List.mem_of_getElem? hx))
      have hxl : x.nodes.length ≤ 100000 := (size_parts HB1.out.2.2.2).2.2 x (List.mem_of_getElem? hx)
      have hwr : w.heap.size ≤ wr.heap.size := Nat.le_trans HB1.out.1.size HD.out.2.size
      have hablt : ab < wr.heap.size := Nat.lt_of_lt_of_le hab hwr
      have HN1 := Lib.hid (fun (X : World) (nb : Nat) (h : Sl X X.heap.size (some ⟨nb, 0, none⟩) ([x.kind].map (Value.int .i64))) => nums51_any [x.kind] (fun v hv => by rw [List.mem_singleton.1 hv]; exact hxw.1) (by simp) (some ⟨nb, 0, none⟩) 1 X h)
      have HL1 := Lib.hid (fun (X : World) (hb : Below wr.heap.size wr X) => list51_any x.nodes hxw.2.2 (by omega) x.nA x.nc X (Sl.more (Sl.below (((HSR.out wr HD.out.2).nodes x (List.mem_of_getElem? hx))) (hb.mono hwr)) (Nat.le_trans hwr hb.size)))
      obtain ⟨T1, hT1⟩ : ∃ T1, T1 = bs (spW (([x.kind] : List Int).map itoa)) := ⟨_, rfl⟩
      have hT1l : T1.size ≤ 22 := by
        rw [hT1, bs_size]
        have := itoa_len hxw.1
        show (32 :: itoa x.kind ++ []).length ≤ 22
        rw [List.append_nil, List.length_cons]
        exact Nat.succ_le_succ this
      obtain ⟨T2, hT2⟩ : ∃ T2, T2 = bs (spW (listW x.nodes)) := ⟨_, rfl⟩
      have hT2l : T2.size ≤ 22000100 := by
        have h := spW_list_le hxw.2.2 (by show x.nodes.length ≤ _; omega) x.nodes.length
        rw [show x.con.nodes = x.nodes from rfl, List.take_length] at h
        rw [hT2, bs_size]
        exact h
      rw [← hT1] at HN1
      rw [← hT2] at HL1
      have HE1 : Hid (s ++ T1 ++ T2 = bs (dialW a.con (k + 1))) := Lib.hid (by
        rw [HD.out.1, hT1, hT2, bs_append, bs_append, dialW_next (show a.con.srcs[k]? = some x.con by show (a.srcs.map SrcM.con)[k]? = _; rw [List.getElem?_map, HX.out]; rfl)]
        rfl)
      have HEND := Lib.hid (show ∀ X : World, Below wr.heap.size wr X → Below W1.heap.size W1 X from fun X h => HD.out.2.trans (h.mono HD.out.2.size))
      have HC6 := Lib.hid (show ∀ X : World, Below wr.heap.size wr X → X.cell? ⟨w.heap.size, 6, none⟩ = some (.slice (some ⟨ab, ao, none⟩) n a.sc) from fun X h => by rw [← hA]; exact HP6.out X (HEND.out X h))
      have HCX := Lib.hid (show ∀ X : World, Below wr.heap.size wr X → X.cell? ⟨ab, ao + k * 2, none⟩ = some (.int .i64 x.kind) ∧ X.cell? ⟨ab, ao + k * 2 + 1, none⟩ = some (.slice x.nA x.nodes.length x.nc) from fun X h => ⟨(h.cell (p := ⟨ab, ao + k * 2, none⟩) hablt).trans x0, (h.cell (p := ⟨ab, ao + k * 2 + 1, none⟩) hablt).trans x1⟩)
      rw [hA] at hp6
      have HHD := Lib.hid (show Below wr.heap.size wr wr.drew from below_dr (Below.refl _ _) 1)
      have hklt : k < n := hlt
      clear hx hA hab x0 x1 hxw hT1 hT2
      obtain ⟨ml, hml⟩ : ∃ ml, ml = x.nodes.length := ⟨_, rfl⟩
      rw [← hml] at hxl HL1 HCX
      clear hml
      go_wp2_with fail
      refine wp_region_held_drew (S := fun W' => Below wr.heap.size wr W') (by kernel_rfl) HHD.out (fun hHeld => ?_)
      clear hp6
      refine wpAnyH_take (i := 0) (v := .string s) rfl (by kernel_rfl) (by kernel_rfl) (by kernel_rfl) (fun _ _ _ h => h) (Or.inl ⟨by rfl, ?_⟩) (by assumption) ?_
      · intro w' hSw
        go_simp
      show wpAnyH _ _ _ _ _ _ _ (Act.put _ (some 35) _) _
      simp only [Act.put, List.setIfInBounds_toArray, List.set_cons_zero, List.set_cons_succ]
      refine wpAnyH_take (i := 1) (v := .pointer (some ⟨w.heap.size, 6, none⟩)) rfl (by kernel_rfl) (by kernel_rfl) (by kernel_rfl) (fun _ _ _ h => h) (Or.inl ⟨by rfl, ?_⟩) (by assumption) ?_
      · intro w' hSw
        go_simp
      show wpAnyH _ _ _ _ _ _ _ (Act.put _ (some 36) _) _
      simp only [Act.put, List.setIfInBounds_toArray, List.set_cons_zero, List.set_cons_succ]
      refine wpAnyH_take (i := 2) (v := .slice (some ⟨ab, ao, none⟩) n a.sc) rfl (by kernel_rfl) (by kernel_rfl) (by kernel_rfl) (fun _ _ _ h => h) (Or.inl ⟨by rfl, ?_⟩) (by assumption) ?_
      · intro w' hSw
        have hc := HC6.out w' hSw
        go_simp
      show wpAnyH _ _ _ _ _ _ _ (Act.put _ (some 37) _) _
      simp only [Act.put, List.setIfInBounds_toArray, List.set_cons_zero, List.set_cons_succ]
      refine wpAnyH_take (i := 3) (v := .int .i64 k) rfl (by kernel_rfl) (by kernel_rfl) (by kernel_rfl) (fun _ _ _ h => h) (Or.inl ⟨by rfl, ?_⟩) (by assumption) ?_
      · intro w' hSw
        go_simp
      show wpAnyH _ _ _ _ _ _ _ (Act.put _ (some 38) _) _
      simp only [Act.put, List.setIfInBounds_toArray, List.set_cons_zero, List.set_cons_succ]
      refine wpAnyH_take (i := 4) (v := .pointer (some ⟨ab, ao + k * 2, none⟩)) rfl (by kernel_rfl) (by kernel_rfl) (by kernel_rfl) (fun _ _ _ h => h) (Or.inl ⟨by rfl, ?_⟩) (by assumption) ?_
      · intro w' hSw
        go_simp
      show wpAnyH _ _ _ _ _ _ _ (Act.put _ (some 39) _) _
      simp only [Act.put, List.setIfInBounds_toArray, List.set_cons_zero, List.set_cons_succ]
      refine wpAnyH_take (i := 5) (v := .pointer (some ⟨ab, ao + k * 2, none⟩)) rfl (by kernel_rfl) (by kernel_rfl) (by kernel_rfl) (fun _ _ _ h => h) (Or.inl ⟨by rfl, ?_⟩) (by assumption) ?_
      · intro w' hSw
        go_simp
      show wpAnyH _ _ _ _ _ _ _ (Act.put _ (some 40) _) _
      simp only [Act.put, List.setIfInBounds_toArray, List.set_cons_zero, List.set_cons_succ]
      refine wpAnyH_take (i := 6) (v := .int .i64 x.kind) rfl (by kernel_rfl) (by kernel_rfl) (by kernel_rfl) (fun _ _ _ h => h) (Or.inl ⟨by rfl, ?_⟩) (by assumption) ?_
      · intro w' hSw
        have hc := (HCX.out w' hSw).1
        go_simp
      show wpAnyH _ _ _ _ _ _ _ (Act.put _ (some 41) _) _
      simp only [Act.put, List.setIfInBounds_toArray, List.set_cons_zero, List.set_cons_succ]
      refine wpAnyH_take (i := 10) (v := .pointer (some ⟨w.heap.size, 6, none⟩)) rfl (by kernel_rfl) (by kernel_rfl) (by kernel_rfl) (fun _ _ _ h => h) (Or.inl ⟨by rfl, ?_⟩) (by assumption) ?_
      · intro w' hSw
        go_simp
      show wpAnyH _ _ _ _ _ _ _ (Act.put _ (some 45) _) _
      simp only [Act.put, List.setIfInBounds_toArray, List.set_cons_zero, List.set_cons_succ]
      refine wpAnyH_take (i := 11) (v := .slice (some ⟨ab, ao, none⟩) n a.sc) rfl (by kernel_rfl) (by kernel_rfl) (by kernel_rfl) (fun _ _ _ h => h) (Or.inl ⟨by rfl, ?_⟩) (by assumption) ?_
      · intro w' hSw
        have hc := HC6.out w' hSw
        go_simp
      show wpAnyH _ _ _ _ _ _ _ (Act.put _ (some 46) _) _
      simp only [Act.put, List.setIfInBounds_toArray, List.set_cons_zero, List.set_cons_succ]
      refine wpAnyH_take (i := 12) (v := .int .i64 k) rfl (by kernel_rfl) (by kernel_rfl) (by kernel_rfl) (fun _ _ _ h => h) (Or.inl ⟨by rfl, ?_⟩) (by assumption) ?_
      · intro w' hSw
        go_simp
      show wpAnyH _ _ _ _ _ _ _ (Act.put _ (some 47) _) _
      simp only [Act.put, List.setIfInBounds_toArray, List.set_cons_zero, List.set_cons_succ]
      refine wpAnyH_take (i := 13) (v := .pointer (some ⟨ab, ao + k * 2, none⟩)) rfl (by kernel_rfl) (by kernel_rfl) (by kernel_rfl) (fun _ _ _ h => h) (Or.inl ⟨by rfl, ?_⟩) (by assumption) ?_
      · intro w' hSw
        go_simp
      show wpAnyH _ _ _ _ _ _ _ (Act.put _ (some 48) _) _
      simp only [Act.put, List.setIfInBounds_toArray, List.set_cons_zero, List.set_cons_succ]
      refine wpAnyH_take (i := 14) (v := .pointer (some ⟨ab, ao + k * 2 + 1, none⟩)) rfl (by kernel_rfl) (by kernel_rfl) (by kernel_rfl) (fun _ _ _ h => h) (Or.inl ⟨by rfl, ?_⟩) (by assumption) ?_
      · intro w' hSw
        go_simp
      show wpAnyH _ _ _ _ _ _ _ (Act.put _ (some 49) _) _
      simp only [Act.put, List.setIfInBounds_toArray, List.set_cons_zero, List.set_cons_succ]
      refine wpAnyH_take (i := 15) (v := .slice x.nA ml x.nc) rfl (by kernel_rfl) (by kernel_rfl) (by kernel_rfl) (fun _ _ _ h => h) (Or.inl ⟨by rfl, ?_⟩) (by assumption) ?_
      · intro w' hSw
        have hc := (HCX.out w' hSw).2
        go_simp
      show wpAnyH _ _ _ _ _ _ _ (Act.put _ (some 50) _) _
      simp only [Act.put, List.setIfInBounds_toArray, List.set_cons_zero, List.set_cons_succ]
      refine wpAnyH_ready (rs := [7]) (by kernel_rfl) (by simp) ?_
      refine AllReadyH.cons rfl (fun K hK => ?_) AllReadyH.nil
      go_simp
      have HSL := Lib.hid (one_sl wr.drew x.kind 2)
      have HA1 := Lib.hid (show Below wr.heap.size wr (wr.drew.alloc (.cells #[.int .i64 x.kind] 2)) from HHD.out.trans (below_new wr.drew _))
      refine hK.out _ _ HA1.out (fun hHeld => ?_)
      clear hK K
      refine wpAnyH_ready (rs := [8]) (by kernel_rfl) (by simp) ?_
      refine AllReadyH.cons rfl (fun K hK => ?_) AllReadyH.nil
      go_simp
      refine (HN1.out _ _ HSL.out).mono ?_
      rintro e Y1 ⟨rfl, hy1⟩
      go_simp
      have HY1 := Lib.hid (HA1.out.trans (hy1.mono HA1.out.size))
      clear hy1
      refine hK.out _ _ HY1.out (fun hHeld => ?_)
      clear hK K
      refine wpAnyH_take (i := 9) (v := .string (s ++ T1)) rfl (by kernel_rfl) (by kernel_rfl) (by kernel_rfl) (fun _ _ _ h => h) (Or.inl ⟨by rfl, ?_⟩) (by assumption) ?_
      · intro w' hSw
        go_simp
        omega
      show wpAnyH _ _ _ _ _ _ _ (Act.put _ (some 44) _) _
      simp only [Act.put, List.setIfInBounds_toArray, List.set_cons_zero, List.set_cons_succ]
      refine wpAnyH_ready (rs := [16]) (by kernel_rfl) (by simp) ?_
      refine AllReadyH.cons rfl (fun K hK => ?_) AllReadyH.nil
      go_simp
      refine (HL1.out _ HY1.out).mono ?_
      rintro e Y2 ⟨rfl, hy2⟩
      go_simp
      refine hK.out _ _ (HY1.out.trans (hy2.mono HY1.out.size)) (fun hHeld => ?_)
      clear hK K
      refine wpAnyH_take (i := 17) (v := .string (s ++ T1 ++ T2)) rfl (by kernel_rfl) (by kernel_rfl) (by kernel_rfl) (fun _ _ _ h => h) (Or.inl ⟨by rfl, ?_⟩) (by assumption) ?_
      · intro w' hSw
        go_simp
        omega
      show wpAnyH _ _ _ _ _ _ _ (Act.put _ (some 52) _) _
      simp only [Act.put, List.setIfInBounds_toArray, List.set_cons_zero, List.set_cons_succ]
      refine wpAnyH_take (i := 18) (v := .string (s ++ T1 ++ T2)) rfl (by kernel_rfl) (by kernel_rfl) (by kernel_rfl) (fun _ _ _ h => h) (Or.inl ⟨by rfl, ?_⟩) (by assumption) ?_
      · intro w' hSw
        go_simp
      show wpAnyH _ _ _ _ _ _ _ (Act.put _ (some 4) _) _
      simp only [Act.put, List.setIfInBounds_toArray, List.set_cons_zero, List.set_cons_succ]
      refine wpAnyH_done (by kernel_rfl) ?_ _
      go_wp2_with fail
      go_roundw
      case rel => exact ⟨k + 1, _, by omega, by go_num, rfl, HE1.out, HEND.out _ hHeld⟩
      case measure => simp [intOf]; omega
    · obtain rfl : k = n := by omega
      have HT2 : Hid (s = bs (actT a.con)) := Lib.hid (by
        rw [HD.out.1, HNN.out, show a.srcs.length = a.con.srcs.length from (List.length_map _).symm, dialW_all HK.out])
      have HBX := Lib.hid (HB1.out.1.trans (HD.out.2.mono HB1.out.1.size))
      by_cases hlen : (actT a.con).length ≤ 65536
      · have d1 : decide ((65536 : Int) < (s.size : Int)) = false := decide_eq_false (by rw [HT2.out, bs_size]; omega)
        have HLEN := Lib.hid hlen
        clear hlen
        go_wp2_with fail
        go_ret2
        refine ⟨.inl ⟨HOK.out, HLEN.out, ?_⟩, HBX.out⟩
        rw [← HT2.out]
        rfl
      · have d1 : decide ((65536 : Int) < (s.size : Int)) = true := decide_eq_true (by rw [HT2.out, bs_size]; omega)
        have HLEN := Lib.hid (show 65536 < (actT a.con).length by omega)
        clear hlen
        go_wp2_with fail
        go_ret2
        exact ⟨.inr (.inl ⟨HOK.out, HLEN.out, rfl⟩), HBX.out⟩
set_option maxRecDepth 100000 in
theorem act51_no (a : ActM) (w : World) (hat : ActAt w w.heap.size a) (hl : ActL a) (hok : ¬ ActOk a.con) : Calls Tryz.prog 18 #[actV a] w fun e w' => FmtR (ActOk a.con) (actT a.con) e ∧ Below w.heap.size w w' := by
  obtain ⟨C, hC⟩ : ∃ C, C = (actCs a).toArray := ⟨_, rfl⟩
  have hv : actV a = .agg C := by rw [hC]; rfl
  have hsz : (Tryz.prog.info? 33).map (·.size) = some C.size := by rw [hC]; kernel_rfl
  obtain ⟨W1, hW1⟩ : ∃ W1, W1 = (w.alloc (.cells C 33)) := ⟨_, rfl⟩
  have hrow := new_obj w (.cells C 33)
  have hb1 : Below w.heap.size w W1 := by rw [hW1]; exact below_new _ _
  have HRA := Lib.hid (rightAct_any a W1 (hat.next hb1) hl)
  rw [tb_false hok] at HRA
  have HB1 := Lib.hid (And.intro hb1 hok)
  rw [hv] at HRA ⊢
  clear hC hv hb1 hok hat hl
  go_enter Tryz.func18, Tryz.ntmps18
  go_wp2_with (refine wpList_load_row_g (by rfl) 33 (.tmp 1) rfl w.heap.size rfl 33 C (0, 0) _ hrow Tryz.underlying33 rfl hsz ?_)
  rw [← hW1]
  clear hrow hW1
  refine HRA.out.mono ?_
  rintro e X1 ⟨rfl, hb⟩
  have HX1 := Lib.hid hb
  clear hb HRA
  go_wp2_with fail
  go_ret2
  exact ⟨.inr (.inr ⟨HB1.out.2, rfl⟩), HB1.out.1.trans (HX1.out.mono HB1.out.1.size)⟩
theorem act51_any (a : ActM) (w : World) (hat : ActAt w w.heap.size a) (hl : ActL a) (hR : ActR a.con) (hsz0 : actSize a.con ≤ 100000) : Calls Tryz.prog 18 #[actV a] w fun e w' => FmtR (ActOk a.con) (actT a.con) e ∧ Below w.heap.size w w' := by
  by_cases hok : ActOk a.con
  rotate_left
  · exact act51_no a w hat hl hok
  obtain ⟨h1, h2⟩ := actN_in hok.1
  have hc : a.kind = 1 ∨ a.kind = 2 ∨ a.kind = 3 ∨ a.kind = 4 ∨ a.kind = 5 ∨ a.kind = 6 ∨ a.kind = 7 ∨ a.kind = 8 ∨ a.kind = 9 ∨ a.kind = 10 ∨ a.kind = 11 ∨ a.kind = 12 ∨ a.kind = 13 ∨ a.kind = 14 ∨ a.kind = 15 ∨ a.kind = 16 ∨ a.kind = 17 ∨ a.kind = 18 ∨ a.kind = 19 := by
    have e : a.con.kind = a.kind := rfl
    omega
  rcases hc with h | h | h | h | h | h | h | h | h | h | h | h | h | h | h | h | h | h | h
  · exact act51_1 a w hat hl hR hsz0 h hok
  · exact act51_2 a w hat hl hR hsz0 h hok
  · exact act51_3 a w hat hl hR hsz0 h hok
  · exact act51_4 a w hat hl hR hsz0 h hok
  · exact act51_5 a w hat hl hR hsz0 h hok
  · exact act51_6 a w hat hl hR hsz0 h hok
  · exact act51_7 a w hat hl hR hsz0 h hok
  · exact act51_8 a w hat hl hR hsz0 h hok
  · exact act51_9 a w hat hl hR hsz0 h hok
  · exact act51_10 a w hat hl hR hsz0 h hok
  · exact act51_11 a w hat hl hR hsz0 h hok
  · exact act51_12 a w hat hl hR hsz0 h hok
  · exact act51_13 a w hat hl hR hsz0 h hok
  · exact act51_14 a w hat hl hR hsz0 h hok
  · exact act51_15 a w hat hl hR hsz0 h hok
  · exact act51_16 a w hat hl hR hsz0 h hok
  · exact act51_17 a w hat hl hR hsz0 h hok
  · exact act51_18 a w hat hl hR hsz0 h hok
  · exact act51_19 a w hat hl hR hsz0 h hok
end
end Go.Proofs.YtakdkiggaalimaaGreatDoor
