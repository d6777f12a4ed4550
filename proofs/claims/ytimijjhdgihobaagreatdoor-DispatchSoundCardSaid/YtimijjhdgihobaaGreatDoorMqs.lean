/-
  samaritanref35.Spare.
  samaritanlaw35.net and wakes.
  How a graph with travel times comes in.
-/
import Derived.Test.YtimijjhdgihobaaGreatDoorMqf
import Derived.Test.YtimijjhdgihobaaGreatDoorMqr
namespace Go.Proofs.YtimijjhdgihobaaGreatDoor
section
open Go.RowKit Go.Maps

theorem below_drewN2 {B : Nat} {a w : World} (n : Nat) (h : Below B a w) : Below B a (w.drewN n) := ⟨h.os, h.tape, h.output, h.size, h.block⟩

set_option maxRecDepth 100000 in
set_option maxHeartbeats 2000000 in
theorem spare_any (A : Option Addr) (c : Nat) (us : List UnitT) (urg rsv : Int) (w : World) (hu : UnitsAt w w.heap.size A us) (hl : us.length ≤ 65536) :
    Calls Tryz.prog 50 #[.slice A us.length c, .int .i64 urg, .int .i64 rsv] w (RetUnits w (spareR (effR urg rsv) us us.length)) := by
  have HU := Lib.hid hu
  clear hu
  obtain ⟨r, hr⟩ : ∃ r, r = effR urg rsv := ⟨_, rfl⟩
  have HR := Lib.hid hr
  rw [← hr]
  clear hr
  go_enter Tryz.func50, Tryz.ntmps50
  go_wp2_with fail
  go_loopw [7, 8] (fun v i wr => ∃ k : Nat, k ≤ us.length ∧ i = .int .i64 k ∧ OwnU wr w.heap.size 43 v (spareR r us k) ∧ Below w.heap.size w wr) (fun _ i _ => us.length - (intOf i).toNat)
  case atStart => exact ⟨0, Nat.zero_le _, rfl, OwnR.nil _ _ _, Below.refl _ _⟩
  case round =>
    obtain ⟨k, hk, rfl, hown, hb⟩ := hrel
    have hsl := spareR_len r us k
    have hmb := hb.size
    by_cases hlt : k < us.length
    · obtain ⟨u, hu⟩ : ∃ u, us[k]? = some u := ⟨us[k], by simp⟩
      obtain ⟨bu, ou, rfl, hbu, c0, c1, c2, c3, c4, c5, c6, c7, c8, c9⟩ := unit_at HU.out hu
      have q0 := (hb.cell (p := ⟨bu, ou + k * 10 + 3, none⟩) hbu).trans c3
      have HSP : Hid (spareR r us (k + 1) = if keepU r us k u then spareR r us k ++ [u] else spareR r us k) := Lib.hid (spareR_succ hu)
      obtain ⟨id, kind, home, state, node, seq, heard, inc, epoch, acked⟩ := u
      simp only at c0 c1 c2 c3 c4 c5 c6 c7 c8 c9 q0
      have HC : Hid (w.cell? ⟨bu, ou + k * 10, none⟩ = some (.int .i64 id) ∧ w.cell? ⟨bu, ou + k * 10 + 1, none⟩ = some (.int .i64 kind) ∧ w.cell? ⟨bu, ou + k * 10 + 2, none⟩ = some (.int .i64 home) ∧ w.cell? ⟨bu, ou + k * 10 + 3, none⟩ = some (.int .i64 state) ∧ w.cell? ⟨bu, ou + k * 10 + 4, none⟩ = some (.int .i64 node) ∧
        w.cell? ⟨bu, ou + k * 10 + 5, none⟩ = some (.int .i64 seq) ∧ w.cell? ⟨bu, ou + k * 10 + 6, none⟩ = some (.int .i64 heard) ∧ w.cell? ⟨bu, ou + k * 10 + 7, none⟩ = some (.int .i64 inc) ∧ w.cell? ⟨bu, ou + k * 10 + 8, none⟩ = some (.int .i64 epoch) ∧ w.cell? ⟨bu, ou + k * 10 + 9, none⟩ = some (.int .i64 acked)) := Lib.hid ⟨c0, c1, c2, c3, c4, c5, c6, c7, c8, c9⟩
      clear hu c0 c1 c2 c3 c4 c5 c6 c7 c8 c9
      by_cases hst : state = 1
      · have ds : (state != 1) = false := by simp [hst]
        have ds' : (state == 1) = true := by simp [hst]
        have HST := Lib.hid hst
        have HOW := Lib.hid hown
        have HBR := Lib.hid hb
        clear hst hown hb
        go_wp2_with fail
        clear q0
        obtain ⟨w2, rfl⟩ : ∃ w2 : World, w2 = wr := ⟨_, rfl⟩
        go_loopw [9, 10] (fun nv jv wr => ∃ (j q : Nat), j ≤ k ∧ jv = .int .i64 j ∧ nv = .int .i64 (cntH home (us.take j) : Int) ∧ wr = w2.drewN q) (fun _ j _ => k - (intOf j).toNat)
        case atStart => exact ⟨0, 0, Nat.zero_le _, rfl, rfl, rfl⟩
        case round =>
          obtain ⟨j, q, hj, rfl, rfl, rfl⟩ := hrel
          have hcl := cntH_le home (us.take j)
          have htl : (us.take j).length ≤ j := List.length_take_le _ _
          by_cases hjk : j < k
          · obtain ⟨x, hx⟩ : ∃ x, us[j]? = some x := ⟨us[j]'(by omega), by simp⟩
            obtain ⟨bx, ox, e, hbx, _, _, x2, x3, _⟩ := unit_at (HU.out.below HBR.out) hx
            injection e with e
            injection e with e1 e2
            subst e1 e2
            have HCN : Hid (cntH home (us.take (j + 1)) = cntH home (us.take j) + if x.state = 1 ∧ x.home = home then 1 else 0) := Lib.hid (by rw [take_snoc' hx, cntH_snoc])
            obtain ⟨xid, xkind, xhome, xstate, xnode, xseq, xheard, xinc, xepoch, xacked⟩ := x
            simp only at x2 x3 HCN
            have q2 := (HBR.out.cell (p := ⟨bu, ou + k * 10 + 2, none⟩) hbu).trans HC.out.2.2.1
            have hjn : j < us.length := by omega
            clear hx
            by_cases h1 : xstate = 1
            · have d1 : (xstate == 1) = true := by simp [h1]
              by_cases h2 : xhome = home
              · have d2 : (xhome == home) = true := by simp [h2]
                have HN2 : Hid ((cntH home (us.take (j + 1)) : Int) = (cntH home (us.take j) : Int) + 1) := Lib.hid (by rw [HCN.out, if_pos ⟨h1, h2⟩]; rfl)
                clear h1 h2
                go_wp2_with fail
                go_quiet (fail)
                go_wp2_with fail
                go_roundw
                case rel => exact ⟨j + 1, q + nq, by omega, by go_num, by rw [HN2.out], by first | rfl | rw [World.drewN_drewN]⟩
                case measure => simp [intOf]; omega
              · have d2 : (xhome == home) = false := by simp [h2]
                have HN2 : Hid ((cntH home (us.take (j + 1)) : Int) = (cntH home (us.take j) : Int)) := Lib.hid (by rw [HCN.out, if_neg (fun h => h2 h.2)]; rfl)
                clear h1 h2
                go_wp2_with fail
                go_quiet (fail)
                go_wp2_with fail
                go_roundw
                case rel => exact ⟨j + 1, q + nq, by omega, by go_num, by rw [HN2.out], by first | rfl | rw [World.drewN_drewN]⟩
                case measure => simp [intOf]; omega
            · have d1 : (xstate == 1) = false := by simp [h1]
              have HN2 : Hid ((cntH home (us.take (j + 1)) : Int) = (cntH home (us.take j) : Int)) := Lib.hid (by rw [HCN.out, if_neg (fun h => h1 h.1)]; rfl)
              clear h1
              go_wp2_with fail
              go_quiet (fail)
              go_wp2_with fail
              go_roundw
              case rel => exact ⟨j + 1, q + nq, by omega, by go_num, by rw [HN2.out], by first | rfl | rw [World.drewN_drewN]⟩
              case measure => simp [intOf]; omega
          · have hjj : j = k := by omega
            subst hjj
            obtain ⟨n, hn⟩ : ∃ n, n = cntH home (us.take j) := ⟨_, rfl⟩
            rw [← hn] at hcl ⊢
            have HN := Lib.hid hn
            clear hn hjk
            have HBQ : Hid (Below w.heap.size w (w2.drewN q)) := Lib.hid (below_drewN2 _ HBR.out)
            have hqz : w.heap.size ≤ (w2.drewN q).heap.size := HBQ.out.size
            have hown : OwnU (w2.drewN q) w.heap.size 43 u7 (spareR r us j) := HOW.out.drewN q
            obtain ⟨k0, k1, k2, k3, k4, k5, k6, k7, k8, k9⟩ := HC.out
            have y0 := (HBQ.out.cell (p := ⟨bu, ou + j * 10, none⟩) hbu).trans k0
            have y1 := (HBQ.out.cell (p := ⟨bu, ou + j * 10 + 1, none⟩) hbu).trans k1
            have y2 := (HBQ.out.cell (p := ⟨bu, ou + j * 10 + 2, none⟩) hbu).trans k2
            have y3 := (HBQ.out.cell (p := ⟨bu, ou + j * 10 + 3, none⟩) hbu).trans k3
            have y4 := (HBQ.out.cell (p := ⟨bu, ou + j * 10 + 4, none⟩) hbu).trans k4
            have y5 := (HBQ.out.cell (p := ⟨bu, ou + j * 10 + 5, none⟩) hbu).trans k5
            have y6 := (HBQ.out.cell (p := ⟨bu, ou + j * 10 + 6, none⟩) hbu).trans k6
            have y7 := (HBQ.out.cell (p := ⟨bu, ou + j * 10 + 7, none⟩) hbu).trans k7
            have y8 := (HBQ.out.cell (p := ⟨bu, ou + j * 10 + 8, none⟩) hbu).trans k8
            have y9 := (HBQ.out.cell (p := ⟨bu, ou + j * 10 + 9, none⟩) hbu).trans k9
            clear k0 k1 k2 k3 k4 k5 k6 k7 k8 k9 HOW
            generalize w2.drewN q = w3 at *
            obtain ⟨B, hB⟩ : ∃ B : Bool, B = decide (r ≤ (n : Int)) := ⟨_, rfl⟩
            have HBB := Lib.hid hB
            clear hB
            go_upto_region 12 with (fail)
            go_cut [59] (fun v wx => v = .bool B ∧ wx = w3)
            case first =>
              by_cases h1 : urg = 1
              · have d1 : (urg == 1) = true := by simp [h1]
                have HQ : Hid (B = true) := Lib.hid (by rw [HBB.out, HR.out, effR, if_pos (.inl h1)]; simp)
                clear h1
                go_wp2_with fail
                go_meet
                case rel => exact ⟨by rw [HQ.out], rfl⟩
              · have d1 : (urg == 1) = false := by simp [h1]
                by_cases h2 : urg = 2
                · have d2 : (urg == 2) = true := by simp [h2]
                  have HQ : Hid (B = true) := Lib.hid (by rw [HBB.out, HR.out, effR, if_pos (.inr h2)]; simp)
                  clear h1 h2
                  go_wp2_with fail
                  go_meet
                  case rel => exact ⟨by rw [HQ.out], rfl⟩
                · have d2 : (urg == 2) = false := by simp [h2]
                  have HQ : Hid (r = rsv) := Lib.hid (by rw [HR.out, effR, if_neg (by rintro (h | h) <;> contradiction)])
                  clear h1 h2
                  go_wp2_with fail
                  go_meet
                  case rel => exact ⟨by rw [HBB.out, HQ.out], rfl⟩
            case rest =>
            obtain ⟨rfl, rfl⟩ := hcut
            cases B
            · go_wp2_with fail
              go_roundw
              case rel =>
                refine ⟨j + 1, by omega, by go_num, ?_, HBQ.out⟩
                rw [HSP.out, if_neg (by rintro ⟨_, h⟩; have := HBB.out; simp only at h; rw [← HN.out] at h; simp at this; omega)]
                exact hown
              case measure => simp [intOf]; omega
            · go_wp2_with (at_builtin; refine wpList_append_rec _ rfl _ _ 27 rfl w.heap.size 43 Tryz.underlying27 unit_info rfl (by omega) (by omega) cellsU_len _ _ wc ⟨id, kind, home, state, node, seq, heard, inc, epoch, acked⟩ (cellsU_one _) _ rfl rfl rfl hown _ rfl rfl (by omega) hqz ?_; intro v1 w1 hown1 hg1)
              go_roundw
              case rel =>
                refine ⟨j + 1, by omega, by go_num, ?_, HBQ.out.grown hg1 hqz (fun j hj => hown.ge_base _ hj)⟩
                rw [HSP.out, if_pos ⟨HST.out, by have := HBB.out; simp at this; rw [HN.out] at this; exact this⟩]
                exact hown1
              case measure => simp [intOf]; omega
      · have ds : (state != 1) = true := by simp [hst]
        have ds' : (state == 1) = false := by simp [hst]
        have HST := Lib.hid hst
        clear hst
        go_wp2_with fail
        go_roundw
        case rel =>
          refine ⟨k + 1, by omega, by go_num, ?_, hb⟩
          rw [HSP.out, if_neg (fun h => HST.out h.1)]
          exact hown
        case measure => simp [intOf]; omega
    · have hkk : k = us.length := by omega
      subst hkk
      go_wp2_with fail
      go_ret
      exact ⟨_, rfl, hown, hb⟩
end
section
open Go.RowKit Go.Shelf Go.Maps

def RetNet (w : World) (z : Int) (E : List EdgeT) (e : Ending) (w' : World) : Prop :=
  (∃ (n p : Nat), z = n ∧ RightP z E ∧ e = .returned (.tuple #[.pointer (some ⟨p, 0, none⟩), .bool true]) ∧ GraphAt w' w'.heap.size p n E ∧ w.heap.size ≤ p ∧ Below w.heap.size w w') ∨
  (e = .returned (.tuple #[.pointer none, .bool false]) ∧ Below w.heap.size w w')

def exE : List EdgeT := [⟨0, 1, 5⟩, ⟨1, 2, 5⟩]
theorem ex_times : timesL [5, 5] 2 = [5, 5] := by decide
theorem ex_usable {i u v : Nat} {x : Int} (h : usable exE [5, 5] i u v x) : (u = 0 ∧ v = 1 ∧ x = 5) ∨ (u = 1 ∧ v = 2 ∧ x = 5) := by
  obtain ⟨e, h1, h2, h3, h4, _⟩ := h
  match i, h1, h4 with
  | 0, h1, h4 => cases h1; cases h4; left; simp only at h2 h3; omega
  | 1, h1, h4 => cases h1; cases h4; right; simp only at h2 h3; omega
  | i + 2, h1, _ => simp [exE] at h1
theorem ex_fin : Fin35 3 (fun s => (s : Int) ∈ [(0 : Int)] ∧ s < 3) exE (timesL [5, 5] exE.length) [0, 5, 10] := by
  have e2 : exE.length = 2 := rfl
  rw [e2, ex_times]
  have w0 : Way (fun s : Nat => (s : Int) ∈ [(0 : Int)] ∧ s < 3) exE [5, 5] 0 0 := Way.src ⟨by simp, by omega⟩
  have w1 : Way (fun s : Nat => (s : Int) ∈ [(0 : Int)] ∧ s < 3) exE [5, 5] 1 5 := Way.step (i := 0) (x := 5) w0 ⟨_, rfl, rfl, rfl, rfl, by decide⟩
  have w2 : Way (fun s : Nat => (s : Int) ∈ [(0 : Int)] ∧ s < 3) exE [5, 5] 2 10 := Way.step (i := 1) (x := 5) w1 ⟨_, rfl, rfl, rfl, rfl, by decide⟩
  refine ⟨rfl, fun v d hd _ => ?_, fun s hs => ?_, fun i u v x d hu hd _ => ?_, fun v d hd _ => ?_⟩
  · match v, hd with
    | 0, hd => cases hd; exact w0
    | 1, hd => cases hd; exact w1
    | 2, hd => cases hd; exact w2
    | v + 3, hd => simp at hd
  · have : s = 0 := by have := hs.1; simp at this; omega
    subst this
    rfl
  · rcases ex_usable hu with ⟨rfl, rfl, rfl⟩ | ⟨rfl, rfl, rfl⟩
    · cases hd
      exact ⟨5, rfl, by omega⟩
    · cases hd
      exact ⟨10, rfl, by omega⟩
  · match v, hd with
    | 0, hd => cases hd; omega
    | 1, hd => cases hd; omega
    | 2, hd => cases hd; omega
    | v + 3, hd => simp at hd

def exU : List UnitT := [⟨0, 1, 0, 1, 0, 0, 0, 0, 0, 0⟩, ⟨1, 1, 0, 1, 0, 0, 0, 0, 0, 0⟩]
theorem exU_three : spareR (effR 3 1) exU 2 = [⟨1, 1, 0, 1, 0, 0, 0, 0, 0, 0⟩] := by rfl
theorem exU_one : (spareR (effR 1 1) exU 2).length = 2 := by rfl
theorem exU_wf : ∀ u ∈ exU, UnitWf u := by
  intro u hu
  simp only [exU, List.mem_cons, List.not_mem_nil, or_false] at hu
  rcases hu with rfl | rfl <;> exact ⟨rfl, rfl, rfl, rfl⟩
end
section
open Go.ChangeShapes Go.WideShapes Go.ChangeAt Go.RowKit

theorem edge_len (e : EdgeT) : [Value.int .i64 e.frm, .int .i64 e.dst, .int .i64 e.tm].length = 3 := rfl

theorem Fin35.le_inf {n : Nat} {S : Nat → Prop} {E : List EdgeT} {W D : List Int} (h : Fin35 n S E W D) (v : Nat) (d : Int) (hd : D[v]? = some d) : d ≤ 4611686018427387904 := by
  by_cases c : d = 4611686018427387904
  · omega
  · have := h.small v d hd c
    omega
theorem farK_le {D : List Int} (h : ∀ (v : Nat) (d : Int), D[v]? = some d → d ≤ 4611686018427387904) : ∀ (zs : List Int) (a m : Int), a ≤ 4611686018427387904 → zs.foldl (farStep D) (some a) = some m → m ≤ 4611686018427387904
  | [], a, m, ha, e => by cases e; exact ha
  | z :: zs, a, m, ha, e => by
    rw [List.foldl_cons] at e
    have hs : farStep D (some a) z = if 0 ≤ z ∧ z < D.length then some (max a (D.getD z.toNat 0)) else none := rfl
    rw [hs] at e
    split at e
    · rename_i hz
      obtain ⟨d, hd⟩ : ∃ d, D[z.toNat]? = some d := ⟨D[z.toNat]'(by omega), by simp⟩
      have := h _ _ hd
      have hg : D.getD z.toNat 0 = d := by rw [List.getD_eq_getElem?_getD, hd]; rfl
      rw [hg] at e
      exact farK_le h zs _ _ (by omega) e
    · rw [far_none] at e
      cases e
/-- one node more never makes it less. -/
theorem farL_more {D zs : List Int} (h : ∀ (v : Nat) (d : Int), D[v]? = some d → d ≤ 4611686018427387904) (hne : zs ≠ []) (z : Int) : farL D zs ≤ farL D (zs ++ [z]) := by
  unfold farL
  rw [if_neg hne, if_neg (by simp), farK_snoc]
  cases e : farK D zs with
  | none => exact Int.le_refl _
  | some m =>
    have hm := farK_le h zs 0 m (by omega) e
    have hs : farStep D (some m) z = if 0 ≤ z ∧ z < D.length then some (max m (D.getD z.toNat 0)) else none := rfl
    rw [hs]
    simp only [Option.getD_some]
    split
    · simp only [Option.getD_some]
      omega
    · simp only [Option.getD_none]
      exact hm

section
variable {H : Type} {enc : TypeId × Value → H}
set_option maxRecDepth 100000 in
/-- A slice of edges, its one cell read. -/
theorem edges_field {W : World} {v : Value} {x : DataW H × List MemPlace} {base fuel : Nat} {spare : Nat → Bool} {held : Bool}
    (hf : DataW.trod enc Tryz.prog W base spare held fuel 22 [v] = some x) :
    ∃ (A : Option Addr) (E : List EdgeT) (cap : Nat), v = .slice A E.length cap ∧ EdgesAt W W.heap.size A E ∧ E.length ≤ cap ∧ cap ≤ 9223372036854775807 ∧ (A = none → cap = 0) := by
  obtain ⟨A, n, cap, rfl, h1, h2, h3, h4⟩ := recs_field Tryz.underlying22 Tryz.underlying66 (by kernel_rfl) (by kernel_rfl) (by decide) hf
  obtain ⟨E, hl, hR⟩ := list_of' (fun i (u : EdgeT) => ∃ b o, A = some ⟨b, o, none⟩ ∧ b < W.heap.size ∧ ∀ (j : Nat) (v : Value), [Value.int .i64 u.frm, .int .i64 u.dst, .int .i64 u.tm][j]? = some v → W.cell? ⟨b, o + i * 3 + j, none⟩ = some v) n (fun i hi => by
    obtain ⟨b, o, e, hb, hg⟩ := h4 i hi
    obtain ⟨u0, _, _, c0, t0⟩ := hg 0 _ rfl
    obtain ⟨u1, _, _, c1, t1⟩ := hg 1 _ rfl
    obtain ⟨u2, _, _, c2, t2⟩ := hg 2 _ rfl
    obtain ⟨z0, e0, _, _⟩ := DataW.trod_int Tryz.underlying3 t0
    obtain ⟨z1, e1, _, k1⟩ := DataW.trod_int Tryz.underlying3 t1
    obtain ⟨z2, e2, _, k2⟩ := DataW.trod_int Tryz.underlying2 t2
    simp at e0 e1 e2
    subst e0 e1 e2
    refine ⟨⟨z0, z1, z2⟩, b, o, e, hb, fun j v hj => ?_⟩
    match j, hj with
    | 0, hj => cases hj; exact c0
    | 1, hj => cases hj; exact c1
    | 2, hj => cases hj; exact c2
    | j + 3, hj => exact absurd (List.getElem?_eq_some_iff.1 hj).1 (by simp))
  exact ⟨A, E, cap, by rw [hl], recsAt_of edge_len (by omega) hR, by omega, by omega, h3⟩

end
end
end Go.Proofs.YtimijjhdgihobaaGreatDoor
