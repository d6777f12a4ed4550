/-
  trace.equalEvents (printed by gentrev.py).
-/
import Derived.Test.YtakdkiggaalimaaGreatDoorTrOr
namespace Go.Proofs.YtakdkiggaalimaaGreatDoor
open Go.RowKit Go.Maps

set_option maxRecDepth 100000 in
set_option maxHeartbeats 16000000 in
theorem eqEv_any (a b : EvM) (w : World) (BA BB : Nat) (ha : EvAt w BA a) (hb : EvAt w BB b) (hA : BA ≤ w.heap.size) (hB : BB ≤ w.heap.size) (ns : a.act.srcs.length ≤ 9223372036854775807) (nn : ∀ s ∈ a.act.srcs, s.nodes.length ≤ 9223372036854775807) (ng : a.act.groups.length ≤ 9223372036854775807) :
    Calls Tryz.prog 43 #[evV a, evV b] w fun e w' => e = .returned (.bool (tb (a.con = b.con))) ∧ Below w.heap.size w w' := by
  obtain ⟨C, hC⟩ : ∃ C, C = (evCs a).toArray := ⟨_, rfl⟩
  obtain ⟨D, hD⟩ : ∃ D, D = (evCs b).toArray := ⟨_, rfl⟩
  have hva : evV a = .agg C := by rw [hC]; rfl
  have hvb : evV b = .agg D := by rw [hD]; rfl
  have c0 : C[0]? = some (.int .i64 a.kind) := by rw [hC]; rfl
  have d0 : D[0]? = some (.int .i64 b.kind) := by rw [hD]; rfl
  have c1 : C[1]? = some (.int .i64 a.tick) := by rw [hC]; rfl
  have d1 : D[1]? = some (.int .i64 b.tick) := by rw [hD]; rfl
  have c2 : C[2]? = some (.int .i64 a.who) := by rw [hC]; rfl
  have d2 : D[2]? = some (.int .i64 b.who) := by rw [hD]; rfl
  have c3 : C[3]? = some (.int .i64 a.call) := by rw [hC]; rfl
  have d3 : D[3]? = some (.int .i64 b.call) := by rw [hD]; rfl
  have c4 : C[4]? = some (.int .i64 a.epoch) := by rw [hC]; rfl
  have d4 : D[4]? = some (.int .i64 b.epoch) := by rw [hD]; rfl
  have c5 : C[5]? = some (.int .i64 a.n) := by rw [hC]; rfl
  have d5 : D[5]? = some (.int .i64 b.n) := by rw [hD]; rfl
  have c6 : C[6]? = some (.int .i64 a.eterm) := by rw [hC]; rfl
  have d6 : D[6]? = some (.int .i64 b.eterm) := by rw [hD]; rfl
  have c7 : C[7]? = some (.int .i64 a.ekind) := by rw [hC]; rfl
  have d7 : D[7]? = some (.int .i64 b.ekind) := by rw [hD]; rfl
  have c8 : C[8]? = some (.slice a.eA a.ebody.length a.ec) := by rw [hC]; rfl
  have d8 : D[8]? = some (.slice b.eA b.ebody.length b.ec) := by rw [hD]; rfl
  have c9 : C[9]? = some (.int .i64 a.ord.unit) := by rw [hC]; rfl
  have d9 : D[9]? = some (.int .i64 b.ord.unit) := by rw [hD]; rfl
  have c10 : C[10]? = some (.int .i64 a.ord.epoch) := by rw [hC]; rfl
  have d10 : D[10]? = some (.int .i64 b.ord.epoch) := by rw [hD]; rfl
  have c11 : C[11]? = some (.int .i64 a.ord.kind) := by rw [hC]; rfl
  have d11 : D[11]? = some (.int .i64 b.ord.kind) := by rw [hD]; rfl
  have c12 : C[12]? = some (.int .i64 a.ord.incident) := by rw [hC]; rfl
  have d12 : D[12]? = some (.int .i64 b.ord.incident) := by rw [hD]; rfl
  have c13 : C[13]? = some (.int .i64 a.ord.node) := by rw [hC]; rfl
  have d13 : D[13]? = some (.int .i64 b.ord.node) := by rw [hD]; rfl
  have c14 : C[14]? = some (.int .i64 a.sta.unit) := by rw [hC]; rfl
  have d14 : D[14]? = some (.int .i64 b.sta.unit) := by rw [hD]; rfl
  have c15 : C[15]? = some (.int .i64 a.sta.seq) := by rw [hC]; rfl
  have d15 : D[15]? = some (.int .i64 b.sta.seq) := by rw [hD]; rfl
  have c16 : C[16]? = some (.int .i64 a.sta.state) := by rw [hC]; rfl
  have d16 : D[16]? = some (.int .i64 b.sta.state) := by rw [hD]; rfl
  have c17 : C[17]? = some (.int .i64 a.sta.node) := by rw [hC]; rfl
  have d17 : D[17]? = some (.int .i64 b.sta.node) := by rw [hD]; rfl
  have c18 : C[18]? = some (.int .i64 a.sta.epoch) := by rw [hC]; rfl
  have d18 : D[18]? = some (.int .i64 b.sta.epoch) := by rw [hD]; rfl
  have c19 : C[19]? = some (.int .i64 a.act.kind) := by rw [hC]; rfl
  have d19 : D[19]? = some (.int .i64 b.act.kind) := by rw [hD]; rfl
  have c20 : C[20]? = some (.int .i64 a.act.who) := by rw [hC]; rfl
  have d20 : D[20]? = some (.int .i64 b.act.who) := by rw [hD]; rfl
  have c21 : C[21]? = some (.int .i64 a.act.n) := by rw [hC]; rfl
  have d21 : D[21]? = some (.int .i64 b.act.n) := by rw [hD]; rfl
  have c22 : C[22]? = some (.int .i64 a.act.call) := by rw [hC]; rfl
  have d22 : D[22]? = some (.int .i64 b.act.call) := by rw [hD]; rfl
  have c23 : C[23]? = some (.int .i64 a.act.other) := by rw [hC]; rfl
  have d23 : D[23]? = some (.int .i64 b.act.other) := by rw [hD]; rfl
  have c24 : C[24]? = some (.int .i64 a.act.node) := by rw [hC]; rfl
  have d24 : D[24]? = some (.int .i64 b.act.node) := by rw [hD]; rfl
  have c25 : C[25]? = some (.slice a.act.sA a.act.srcs.length a.act.sc) := by rw [hC]; rfl
  have d25 : D[25]? = some (.slice b.act.sA b.act.srcs.length b.act.sc) := by rw [hD]; rfl
  have c26 : C[26]? = some (.slice a.act.gA a.act.groups.length a.act.gc) := by rw [hC]; rfl
  have d26 : D[26]? = some (.slice b.act.gA b.act.groups.length b.act.gc) := by rw [hD]; rfl
  have c27 : C[27]? = some (.slice a.bA a.bytes.length a.bc) := by rw [hC]; rfl
  have d27 : D[27]? = some (.slice b.bA b.bytes.length b.bc) := by rw [hD]; rfl
  rw [hva, hvb]
  have hb1 : Below w.heap.size w ((w.alloc (.cells C 35)).alloc (.cells D 35)) := ((Below.refl _ _).alloc (Nat.le_refl _) _).alloc (by simp) _
  have HB1 := Lib.hid hb1
  obtain ⟨W1, hW1⟩ : ∃ W1, W1 = ((w.alloc (.cells C 35)).alloc (.cells D 35)) := ⟨_, rfl⟩
  have HC8 := Lib.hid (bytesEq_any a.eA b.eA a.ec b.ec a.ebody b.ebody W1 BA BB (Sl.below ha.body (by rw [hW1]; exact hb1.mono hA)) (Sl.below hb.body (by rw [hW1]; exact hb1.mono hB)))
  have HC19 := Lib.hid (eqAct_any a.act b.act W1 BA BB (ha.act.below (by rw [hW1]; exact hb1.mono hA)) (hb.act.below (by rw [hW1]; exact hb1.mono hB)) (by rw [hW1]; exact Nat.le_trans hA hb1.size) (by rw [hW1]; exact Nat.le_trans hB hb1.size) ns nn ng)
  unfold actV at HC19
  have HBY := Lib.hid (And.intro ha.bytes (And.intro hb.bytes (And.intro hA hB)))
  have HPQ : Hid (W1.cell? ⟨w.heap.size, 27, none⟩ = some (.slice a.bA a.bytes.length a.bc) ∧ W1.cell? ⟨w.heap.size + 1, 27, none⟩ = some (.slice b.bA b.bytes.length b.bc) ∧ w.heap.size + 1 < W1.heap.size) := Lib.hid (by
    obtain ⟨h1, h2, _, h4⟩ := two_boxes w (evCs a) (evCs b) 35 35 W1 (by rw [hW1, hC, hD])
    exact ⟨h1 27 _ rfl, h2 27 _ rfl, h4⟩)
  have HW := Lib.hid hW1
  clear hC hD hva hvb hb1 ha hb hA hB ns nn ng hW1
  go_enter Tryz.func43, Tryz.ntmps43
  simp only [List.append]
  go_wp2_with (first | (refine wpList_cmpI rfl rfl (by with_reducible rfl) (fun e hne => ?_) (fun e heq => ?_); (focus (rw [e]; refine wpList_jump (.bool false) (by kernel_rfl) ?_; simp only [setAll, Act.put, List.setIfInBounds_toArray, List.set_cons_zero, List.set_cons_succ]; go_wp2_with fail; go_ret; exact ⟨ret_no (fun q => by first | exact hne (congrArg EvC.kind q) | exact hne (congrArg EvC.tick q) | exact hne (congrArg EvC.who q) | exact hne (congrArg EvC.call q) | exact hne (congrArg EvC.epoch q) | exact hne (congrArg EvC.n q) | exact hne (congrArg EvC.eterm q) | exact hne (congrArg EvC.ekind q)), HB1.out⟩)); rw [e]; have _ := Lib.hid heq; clear e heq) | (refine wpList_cmpT rfl rfl (by with_reducible rfl) (fun e hne => ?_) (fun e heq => ?_); (focus (rw [e]; refine wpList_jump (.bool false) (by kernel_rfl) ?_; simp only [setAll, Act.put, List.setIfInBounds_toArray, List.set_cons_zero, List.set_cons_succ]; go_wp2_with fail; go_ret; exact ⟨ret_no (fun q => by first | exact hne (congrArg EvC.ebody q) | exact hne (congrArg EvC.ord q) | exact hne (congrArg EvC.sta q)), HB1.out⟩)); rw [e]; have _ := Lib.hid heq; clear e heq) | (refine wpList_binB (b := tb (a.ord = b.ord)) rfl rfl (ord_run' _ _ a.ord b.ord _) ?_; simp only [Act.put, List.setIfInBounds_toArray, List.set_cons_zero, List.set_cons_succ]) | (refine wpList_binB (b := tb (a.sta = b.sta)) rfl rfl (sta_run' _ _ a.sta b.sta _) ?_; simp only [Act.put, List.setIfInBounds_toArray, List.set_cons_zero, List.set_cons_succ]))
  rw [← HW.out]
  refine HC8.out.mono ?_
  rintro e V0 ⟨rfl, hV0⟩
  rw [hV0, HW.out]
  clear hV0 V0
  go_wp2_with (first | (refine wpList_cmpI rfl rfl (by with_reducible rfl) (fun e hne => ?_) (fun e heq => ?_); (focus (rw [e]; refine wpList_jump (.bool false) (by kernel_rfl) ?_; simp only [setAll, Act.put, List.setIfInBounds_toArray, List.set_cons_zero, List.set_cons_succ]; go_wp2_with fail; go_ret; exact ⟨ret_no (fun q => by first | exact hne (congrArg EvC.kind q) | exact hne (congrArg EvC.tick q) | exact hne (congrArg EvC.who q) | exact hne (congrArg EvC.call q) | exact hne (congrArg EvC.epoch q) | exact hne (congrArg EvC.n q) | exact hne (congrArg EvC.eterm q) | exact hne (congrArg EvC.ekind q)), HB1.out⟩)); rw [e]; have _ := Lib.hid heq; clear e heq) | (refine wpList_cmpT rfl rfl (by with_reducible rfl) (fun e hne => ?_) (fun e heq => ?_); (focus (rw [e]; refine wpList_jump (.bool false) (by kernel_rfl) ?_; simp only [setAll, Act.put, List.setIfInBounds_toArray, List.set_cons_zero, List.set_cons_succ]; go_wp2_with fail; go_ret; exact ⟨ret_no (fun q => by first | exact hne (congrArg EvC.ebody q) | exact hne (congrArg EvC.ord q) | exact hne (congrArg EvC.sta q)), HB1.out⟩)); rw [e]; have _ := Lib.hid heq; clear e heq) | (refine wpList_binB (b := tb (a.ord = b.ord)) rfl rfl (ord_run' _ _ a.ord b.ord _) ?_; simp only [Act.put, List.setIfInBounds_toArray, List.set_cons_zero, List.set_cons_succ]) | (refine wpList_binB (b := tb (a.sta = b.sta)) rfl rfl (sta_run' _ _ a.sta b.sta _) ?_; simp only [Act.put, List.setIfInBounds_toArray, List.set_cons_zero, List.set_cons_succ]))
  rw [← HW.out]
  refine HC19.out.mono ?_
  rintro e V ⟨rfl, hbv⟩
  have HV := Lib.hid (show Below w.heap.size w V from HB1.out.trans ((HW.out ▸ hbv).mono HB1.out.size))
  have p27 := (hbv.cell (p := ⟨w.heap.size, 27, none⟩) (by have := HPQ.out.2.2; show w.heap.size < _; omega)).trans HPQ.out.1
  have q27 := (hbv.cell (p := ⟨w.heap.size + 1, 27, none⟩) HPQ.out.2.2).trans HPQ.out.2.1
  have HC20 := Lib.hid (bytesEq_any a.bA b.bA a.bc b.bc a.bytes b.bytes V BA BB (Sl.below HBY.out.1 (HV.out.mono HBY.out.2.2.1)) (Sl.below HBY.out.2.1 (HV.out.mono HBY.out.2.2.2)))
  clear hbv c0 d0 c1 d1 c2 d2 c3 d3 c4 d4 c5 d5 c6 d6 c7 d7 c8 d8 c9 d9 c10 d10 c11 d11 c12 d12 c13 d13 c14 d14 c15 d15 c16 d16 c17 d17 c18 d18 c19 d19 c20 d20 c21 d21 c22 d22 c23 d23 c24 d24 c25 d25 c26 d26 c27 d27
  by_cases g19 : a.act.con = b.act.con
  rotate_left
  · rw [tb_false g19]
    have HG := Lib.hid g19
    clear g19
    go_wp2_with fail
    go_ret
    exact ⟨ret_no (fun q => HG.out (congrArg EvC.act q)), HV.out⟩
  rw [tb_true g19]
  have HG := Lib.hid g19
  clear g19
  go_wp2_with fail
  refine HC20.out.mono ?_
  rintro e V2 ⟨rfl, hV2⟩
  rw [hV2]
  clear hV2 V2
  have HEQ : Hid (a.con = b.con ↔ a.bytes = b.bytes) := Lib.hid (by
    obtain ⟨o1, o2, o3, o4, o5⟩ := (ord_iff _ _).1 (by assumption : Hid (a.ord = b.ord)).out
    obtain ⟨s1, s2, s3, s4, s5⟩ := (sta_iff _ _).1 (by assumption : Hid (a.sta = b.sta)).out
    exact ⟨fun q => congrArg EvC.bytes q, fun g20 => (evc_iff a b).2 ⟨(by assumption : Hid (a.kind = b.kind)).out, (by assumption : Hid (a.tick = b.tick)).out, (by assumption : Hid (a.who = b.who)).out, (by assumption : Hid (a.call = b.call)).out, (by assumption : Hid (a.epoch = b.epoch)).out, (by assumption : Hid (a.n = b.n)).out, (by assumption : Hid (a.eterm = b.eterm)).out, (by assumption : Hid (a.ekind = b.ekind)).out, (by assumption : Hid (a.ebody = b.ebody)).out, o1, o2, o3, o4, o5, s1, s2, s3, s4, s5, HG.out, g20⟩⟩)
  rw [← tb_iff HEQ.out]
  go_wp2_with fail
  go_ret
  exact ⟨rfl, HV.out⟩
end Go.Proofs.YtakdkiggaalimaaGreatDoor
