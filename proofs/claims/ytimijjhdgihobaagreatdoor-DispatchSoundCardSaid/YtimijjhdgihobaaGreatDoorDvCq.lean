/-
  samaritanlaw38.DispatchSound: the walk.
-/
import Derived.Test.YtimijjhdgihobaaGreatDoorDvBq
import Derived.Test.YtimijjhdgihobaaGreatDoorMrf
import Derived.Test.YtimijjhdgihobaaGreatDoorMqzf
import Derived.Test.YtimijjhdgihobaaGreatDoorDzEq
import Derived.Test.YtimijjhdgihobaaGreatDoorMqr
import Derived.Test.YtimijjhdgihobaaGreatDoorMqt
import Derived.Test.YtimijjhdgihobaaGreatDoorMqa
import Derived.Deep.RegionHeld3
namespace Go.Proofs.YtimijjhdgihobaaGreatDoor
section
open Go.RowKit Go.Maps

/-- what the comparison reads. -/
def SHeld (bs b6 b7 b13 : Nat) (s : StT) (c : ChoT) (u : UnitT) (x : IncT) (xc : Bool) (W w' : World) : Prop :=
  w'.cell? ⟨bs, 0, none⟩ = some (.int .i64 s.z) ∧ w'.cell? ⟨bs, 1, none⟩ = some (.slice s.eA s.E.length s.ec) ∧ w'.cell? ⟨bs, 2, none⟩ = some (.slice s.tA s.ts.length s.tc) ∧ w'.cell? ⟨b6, 0, none⟩ = some (.int .i64 c.inc) ∧ w'.cell? ⟨b6, 3, none⟩ = some (.int .i64 c.time) ∧ w'.cell? ⟨b7, 4, none⟩ = some (.int .i64 u.node) ∧ w'.cell? ⟨b13, 0, none⟩ = some (.int .i64 x.id) ∧ w'.cell? ⟨b13, 3, none⟩ = some (.slice x.nA x.nodes.length x.nc) ∧ w'.cell? ⟨b13, 8, none⟩ = some (.int .i64 x.merged) ∧ w'.cell? ⟨b13, 9, none⟩ = some (.bool xc) ∧ Below W.heap.size W w'
theorem SHeld.below {bs b6 b7 b13 : Nat} {s : StT} {c : ChoT} {u : UnitT} {x : IncT} {xc : Bool} {W X X' : World} (h : SHeld bs b6 b7 b13 s c u x xc W X) (l : bs < W.heap.size ∧ b6 < W.heap.size ∧ b7 < W.heap.size ∧ b13 < W.heap.size) (hb : Below X.heap.size X X') : SHeld bs b6 b7 b13 s c u x xc W X' := by
  obtain ⟨h0, h1, h2, h3, h4, h5, h6, h7, h8, h9, h10⟩ := h
  obtain ⟨l1, l2, l3, l4⟩ := l
  have hz := h10.size
  exact ⟨(hb.cell (p := ⟨bs, 0, none⟩) (Nat.lt_of_lt_of_le l1 hz)).trans h0, (hb.cell (p := ⟨bs, 1, none⟩) (Nat.lt_of_lt_of_le l1 hz)).trans h1, (hb.cell (p := ⟨bs, 2, none⟩) (Nat.lt_of_lt_of_le l1 hz)).trans h2, (hb.cell (p := ⟨b6, 0, none⟩) (Nat.lt_of_lt_of_le l2 hz)).trans h3, (hb.cell (p := ⟨b6, 3, none⟩) (Nat.lt_of_lt_of_le l2 hz)).trans h4, (hb.cell (p := ⟨b7, 4, none⟩) (Nat.lt_of_lt_of_le l3 hz)).trans h5, (hb.cell (p := ⟨b13, 0, none⟩) (Nat.lt_of_lt_of_le l4 hz)).trans h6, (hb.cell (p := ⟨b13, 3, none⟩) (Nat.lt_of_lt_of_le l4 hz)).trans h7, (hb.cell (p := ⟨b13, 8, none⟩) (Nat.lt_of_lt_of_le l4 hz)).trans h8, (hb.cell (p := ⟨b13, 9, none⟩) (Nat.lt_of_lt_of_le l4 hz)).trans h9, h10.trans (hb.mono hz)⟩

theorem ten_set {Y : World} {b : Nat} {T : TypeId} {U : UnitT} (u : UnitT) (h : Blk Y b T (cellsU U)) : Blk ((((((((((Y.setCell ⟨b, 0, none⟩ (.int .i64 u.id)).setCell ⟨b, 1, none⟩ (.int .i64 u.kind)).setCell ⟨b, 2, none⟩ (.int .i64 u.home)).setCell ⟨b, 3, none⟩ (.int .i64 u.state)).setCell ⟨b, 4, none⟩ (.int .i64 u.node)).setCell ⟨b, 5, none⟩ (.int .i64 u.seq)).setCell ⟨b, 6, none⟩ (.int .i64 u.heard)).setCell ⟨b, 7, none⟩ (.int .i64 u.inc)).setCell ⟨b, 8, none⟩ (.int .i64 u.epoch)).setCell ⟨b, 9, none⟩ (.int .i64 u.acked)) b T (cellsU u) := ((((((((((h.set 0 _).set 1 _).set 2 _).set 3 _).set 4 _).set 5 _).set 6 _).set 7 _).set 8 _).set 9 _)
theorem ten_below {B b : Nat} {X Y : World} (u : UnitT) (h : Below B X Y) (hb : B ≤ b) : Below B X ((((((((((Y.setCell ⟨b, 0, none⟩ (.int .i64 u.id)).setCell ⟨b, 1, none⟩ (.int .i64 u.kind)).setCell ⟨b, 2, none⟩ (.int .i64 u.home)).setCell ⟨b, 3, none⟩ (.int .i64 u.state)).setCell ⟨b, 4, none⟩ (.int .i64 u.node)).setCell ⟨b, 5, none⟩ (.int .i64 u.seq)).setCell ⟨b, 6, none⟩ (.int .i64 u.heard)).setCell ⟨b, 7, none⟩ (.int .i64 u.inc)).setCell ⟨b, 8, none⟩ (.int .i64 u.epoch)).setCell ⟨b, 9, none⟩ (.int .i64 u.acked)) := ((((((((((h.setCell (p := ⟨b, 0, none⟩) hb _).setCell (p := ⟨b, 1, none⟩) hb _).setCell (p := ⟨b, 2, none⟩) hb _).setCell (p := ⟨b, 3, none⟩) hb _).setCell (p := ⟨b, 4, none⟩) hb _).setCell (p := ⟨b, 5, none⟩) hb _).setCell (p := ⟨b, 6, none⟩) hb _).setCell (p := ⟨b, 7, none⟩) hb _).setCell (p := ⟨b, 8, none⟩) hb _).setCell (p := ⟨b, 9, none⟩) hb _)
theorem ten_size {b : Nat} {Y : World} (u : UnitT) : ((((((((((Y.setCell ⟨b, 0, none⟩ (.int .i64 u.id)).setCell ⟨b, 1, none⟩ (.int .i64 u.kind)).setCell ⟨b, 2, none⟩ (.int .i64 u.home)).setCell ⟨b, 3, none⟩ (.int .i64 u.state)).setCell ⟨b, 4, none⟩ (.int .i64 u.node)).setCell ⟨b, 5, none⟩ (.int .i64 u.seq)).setCell ⟨b, 6, none⟩ (.int .i64 u.heard)).setCell ⟨b, 7, none⟩ (.int .i64 u.inc)).setCell ⟨b, 8, none⟩ (.int .i64 u.epoch)).setCell ⟨b, 9, none⟩ (.int .i64 u.acked)).heap.size = Y.heap.size := by simp [World.setCell]

set_option maxRecDepth 100000 in
set_option maxHeartbeats 16000000 in
theorem sound_any (w : World) (s : StT) (hs : StIn w w.heap.size s) (hw : StWf s) (hr : Ready w) :
    Calls Tryz.prog 4 #[.agg #[.int .i64 s.z, .slice s.eA s.E.length s.ec, .slice s.tA s.ts.length s.tc, .slice s.iA s.xs.length s.ic, .slice s.uA s.us.length s.uc, .slice s.pA s.ps.length s.pc, .int .i64 s.rsv]] w fun e w' => e = .returned (.bool true) ∧ Below w.heap.size w w' := by
  obtain ⟨W, hW⟩ : ∃ W, W = w.alloc (stObj s) := ⟨_, rfl⟩
  have hbel : Below w.heap.size w W := by rw [hW]; exact (Below.refl _ _).alloc (Nat.le_refl _) _
  have hz : w.heap.size < W.heap.size := by rw [hW]; simp
  have hbx : BoxS w.heap.size s W := by rw [hW]; exact box_new w s
  have HB := Lib.hid hbel
  have HIN := Lib.hid (hs.next hbel)
  have HBX := Lib.hid hbx
  have HWF := Lib.hid hw
  have HR := Lib.hid (hr.below hbel)
  obtain ⟨c0, c1, c2, c3, c4, c5, c6⟩ := hbx
  have HN := Lib.hid (net38_any s W HIN.out hw)
  have hW2 : W = w.alloc (.cells #[.int .i64 s.z, .slice s.eA s.E.length s.ec, .slice s.tA s.ts.length s.tc, .slice s.iA s.xs.length s.ic, .slice s.uA s.us.length s.uc, .slice s.pA s.ps.length s.pc, .int .i64 s.rsv] 30) := hW
  clear hbel hs hw hW hr
  go_enter Tryz.func4, Tryz.ntmps4
  go_upto_region 1 with fail
  rw [← hW2]
  clear hW2
  go_wp2_with fail
  ((with_reducible refine HN.out.mono ?_))
  rintro e w1 (⟨n, p, hn, hf, rfl, hg, hp, hb1⟩ | ⟨rfl, hb1⟩)
  · have HB1 := Lib.hid (HB.out.trans (hb1.mono HB.out.size))
    have hbx1 := HBX.out.below hz hb1
    have HIN1 := Lib.hid (HIN.out.next hb1)
    have HR1 := Lib.hid (HR.out.below hb1)
    have HG := Lib.hid hg
    have HF := Lib.hid hf
    have HNN := Lib.hid hn
    have HOK := Lib.hid (hf.ok hn)
    have HBX1 := Lib.hid hbx1
    have hz1 : w.heap.size < w1.heap.size := Nat.lt_of_lt_of_le hz hb1.size
    have HS := Lib.hid (lsend_any s n p w1 hg HIN1.out HWF.out HOK.out)
    obtain ⟨c0, c1, c2, c3, c4, c5, c6⟩ := hbx1
    clear hn hf hg hp hb1 HN HBX
    go_wp2_with fail
    ((with_reducible refine HS.out.mono ?_))
    rintro e w2 ⟨v, cs, us', rfl, hrun, hown, hcl, hb2⟩
    obtain ⟨A6, c6', rfl, hcs⟩ := hown.sl
    have HRUN := Lib.hid hrun
    have HGD := Lib.hid (run_good HF.out.dist (SameU.refl s.us) hrun)
    have hcap := hown.caps
    have HCS := Lib.hid hcs
    have HIN2 := Lib.hid (HIN1.out.next hb2)
    have HR2 := Lib.hid (HR1.out.below hb2)
    have HB2 := Lib.hid (HB1.out.trans (hb2.mono HB1.out.size))
    have HBX2 := Lib.hid (HBX1.out.below hz1 hb2)
    have hz2 : w.heap.size < w2.heap.size := Nat.lt_of_lt_of_le hz1 hb2.size
    have hc8 : cs.length ≤ c6' := hcap.2.1
    have hc9 : c6' ≤ 9223372036854775807 := hcap.2.2.1
    have hil := HWF.out.il
    have hul : s.us.length ≤ 9223372036854775807 := Nat.le_trans HWF.out.ul HWF.out.ucap
    clear c0 c1 c2 c3 c4 c5 c6 HS hrun hown hcs hb2 HBX1 hcap
    go_wp2_with fail
    go_loopw [26] (fun iv Y => ∃ i : Nat, i ≤ cs.length ∧ iv = .int .i64 i ∧ Below w2.heap.size w2 Y) (fun iv _ => cs.length - (intOf iv).toNat)
    case atStart => exact ⟨0, Nat.zero_le _, rfl, Below.refl _ _⟩
    case round =>
      obtain ⟨i, hi, rfl, hb⟩ := hrel
      have HBY := Lib.hid hb
      have hbz := hb.size
      clear hb
      by_cases hlt : i < cs.length
      · have hlt' : (i : Int) < (cs.length : Int) := by omega
        obtain ⟨c, hc⟩ : ∃ c, cs[i]? = some c := ⟨_, List.getElem?_eq_getElem hlt⟩
        obtain ⟨bc, oc, rfl, hbc, q0, q1, q2, q3⟩ := cho_at (HCS.out.below HBY.out) hc
        have HC := Lib.hid hc
        obtain ⟨⟨j0, u0, hu0, hid0, hst0, hsat, k0, x0, hx0, ho0, hinc0, htt⟩, htime⟩ := HGD.out.1 c (List.mem_of_getElem? hc)
        obtain ⟨W7, hW7⟩ : ∃ W7, W7 = (wr.alloc (.cells #[.int .i64 c.inc, .int .i64 c.kind, .int .i64 c.unit, .int .i64 c.time] 41)).alloc (.cells #[.int .i64 0, .int .i64 0, .int .i64 0, .int .i64 0, .int .i64 0, .int .i64 0, .int .i64 0, .int .i64 0, .int .i64 0, .int .i64 0] 43) := ⟨_, rfl⟩
        have hzr1 : (wr.alloc (.cells #[.int .i64 c.inc, .int .i64 c.kind, .int .i64 c.unit, .int .i64 c.time] 41)).heap.size = wr.heap.size + 1 := by simp
        have HK6 : Hid (Blk W7 wr.heap.size 41 (cellsCh c)) := Lib.hid (by
          rw [hW7]
          exact (blk_new wr (cellsCh c) 41).below ((Below.refl (wr.heap.size + 1) _).alloc (by simp) _) (Nat.lt_succ_self _))
        have HK7 : Hid (Blk W7 (wr.heap.size + 1) 43 (cellsU ⟨0, 0, 0, 0, 0, 0, 0, 0, 0, 0⟩)) := Lib.hid (by
          rw [hW7, ← hzr1]
          exact blk_new _ (cellsU ⟨0, 0, 0, 0, 0, 0, 0, 0, 0, 0⟩) 43)
        have HB7 : Hid (Below w2.heap.size w2 W7) := Lib.hid (by rw [hW7]; exact (HBY.out.alloc hbz _).alloc (by simp; omega) _)
        have hz7 : W7.heap.size = wr.heap.size + 2 := by rw [hW7]; simp
        obtain ⟨b7, hb7⟩ : ∃ b, b = wr.heap.size + 1 := ⟨_, rfl⟩
        obtain ⟨b6, hb6⟩ : ∃ b, b = wr.heap.size := ⟨_, rfl⟩
        have HU0 := Lib.hid (And.intro hu0 (And.intro hid0 (And.intro hst0 hsat)))
        have HX0 := Lib.hid (And.intro hx0 (And.intro ho0 (And.intro hinc0 htt)))
        have HTM := Lib.hid htime
        have hj0 : j0 < s.us.length := (List.getElem?_eq_some_iff.1 hu0).1
        have hk0 : k0 < s.xs.length := (List.getElem?_eq_some_iff.1 hx0).1
        clear hc hu0 hid0 hst0 hsat hx0 ho0 hinc0 htt htime
        go_upto_region 10 with fail
        rw [← hW7]
        rw [← hb7, ← hb6] 
        rw [← hb7] at HK7
        rw [← hb6] at HK6
        have hl6 : w2.heap.size ≤ b6 := by omega
        have hl67 : b6 < b7 := by omega
        have hl7 : b7 < W7.heap.size := by omega
        have HW7S := Lib.hid hz7
        have hsw : w.heap.size < b6 := by omega
        clear hW7 hzr1 hz7 hb7 hb6 q0 q1 q2 q3
        have c4 := (HBX2.out.below hz2 HB7.out).c4
        have hwz7 : w.heap.size < W7.heap.size := by omega
        go_wp2_with fail
        clear c4
        go_loopw [8, 34] (fun tv iv Y => ∃ (k : Nat) (t : Bool) (U : UnitT), k ≤ s.us.length ∧ tv = .bool t ∧ iv = .int .i64 k ∧ Below b7 W7 Y ∧ Hid (Blk Y b7 43 (cellsU U)) ∧ Hid ((j0 < k → t = true ∧ U = u0) ∧ (k ≤ j0 → t = false))) (fun _ iv _ => s.us.length - (intOf iv).toNat)
        case atStart => exact ⟨0, false, _, Nat.zero_le _, rfl, rfl, Below.refl _ _, HK7, Lib.hid ⟨fun h => by omega, fun _ => rfl⟩⟩
        case round =>
          clear HK7
          obtain ⟨k, t, U, hk, rfl, rfl, hb, HU7, HT⟩ := hrel
          have HB8 := Lib.hid hb
          have hz8 := hb.size
          clear hb
          by_cases hltu : k < s.us.length
          · have hltu' : (k : Int) < (s.us.length : Int) := by omega
            obtain ⟨u, hu⟩ : ∃ u, s.us[k]? = some u := ⟨_, List.getElem?_eq_getElem hltu⟩
            obtain ⟨b1, o1, hA1, hb1, q0, q1, q2, q3, q4, q5, q6, q7, q8, q9⟩ := unit_at ((HIN2.out.u.below HB7.out).below (HB8.out.mono (by omega))) hu
            obtain ⟨uA, huA⟩ : ∃ A, A = s.uA := ⟨_, rfl⟩
            rw [← huA] at hA1 ⊢
            subst hA1
            have HUA := Lib.hid huA
            have HU := Lib.hid hu
            have h6 := HK6.out.below HB8.out hl67
            have r2 := h6.cell (j := 2) rfl
            have hbw : b1 < wr.heap.size := by omega
            have hbw6 : b6 < wr.heap.size := by omega
            have hbw7 : b7 < wr.heap.size := by omega
            have hsz : wr.heap.size ≠ b7 := by omega
            by_cases he : u.id = c.unit
            · have he' : (u.id == c.unit) = true := by simp [he]
              have hkj : k = j0 := by
                exact DistU.eq HF.out.dist hu HU0.out.1 (he.trans HU0.out.2.1)
              subst hkj
              have huu : u = u0 := by
                have := HU0.out.1
                rw [hu] at this
                injection this
              have HUU := Lib.hid huu
              have f0 := HU7.out.free 0
              have f1 := HU7.out.free 1
              have f2 := HU7.out.free 2
              have f3 := HU7.out.free 3
              have f4 := HU7.out.free 4
              have f5 := HU7.out.free 5
              have f6 := HU7.out.free 6
              have f7 := HU7.out.free 7
              have f8 := HU7.out.free 8
              have f9 := HU7.out.free 9
              have y0 := HU7.out.cell (j := 0) rfl
              have y1 := HU7.out.cell (j := 1) rfl
              have y2 := HU7.out.cell (j := 2) rfl
              have y3 := HU7.out.cell (j := 3) rfl
              have y4 := HU7.out.cell (j := 4) rfl
              have y5 := HU7.out.cell (j := 5) rfl
              have y6 := HU7.out.cell (j := 6) rfl
              have y7 := HU7.out.cell (j := 7) rfl
              have y8 := HU7.out.cell (j := 8) rfl
              have y9 := HU7.out.cell (j := 9) rfl
              clear hu huA h6 he huu
              go_wp2_with fail
              go_roundw
              case rel =>
                refine ⟨k + 1, true, u, by omega, rfl, by go_num, (ten_below u HB8.out (Nat.le_refl _)).alloc (by rw [ten_size]; omega) _, Lib.hid ((ten_set u HU7.out).below ((Below.refl _ _).alloc (Nat.le_refl _) _) (by rw [ten_size]; omega)), Lib.hid ⟨fun _ => ⟨rfl, HUU.out⟩, fun h => by omega⟩⟩
              case measure => simp [intOf]; omega
            · have he' : (u.id == c.unit) = false := by simp [he]
              have hne : k ≠ j0 := fun e => by
                subst e
                have := HU0.out.1
                rw [hu] at this
                injection this with this
                exact he (by rw [this, HU0.out.2.1])
              clear hu huA h6 he
              go_wp2_with fail
              go_roundw
              case rel => exact ⟨k + 1, t, U, by omega, rfl, by go_num, HB8.out.alloc (by omega) _, Lib.hid (HU7.out.below ((Below.refl wr.heap.size wr).alloc (Nat.le_refl _) _) hbw7), Lib.hid ⟨fun h => HT.out.1 (by omega), fun h => HT.out.2 (by omega)⟩⟩
              case measure => simp [intOf]; omega
          · obtain rfl : k = s.us.length := by omega
            obtain ⟨ht, hU⟩ := HT.out.1 hj0
            rw [hU] at HU7
            rw [ht]
            have HB9 : Hid (Below w2.heap.size w2 wr) := Lib.hid (HB7.out.trans (HB8.out.mono (by omega)))
            have hbz9 := HB9.out.size
            have HK6' := Lib.hid (HK6.out.below HB8.out hl67)
            have c3 := (HBX2.out.below hz2 HB9.out).c3
            have hwz9 : w.heap.size < wr.heap.size := by omega
            obtain ⟨Ds, hDs⟩ := fin_some (W := timesL s.ts s.E.length) HOK.out.hn (okW_times _ _) HOK.out.hok [u0.node]
            have HDS := Lib.hid hDs
            clear ht hU HT hDs
            obtain ⟨w8, rfl⟩ : ∃ w8 : World, w8 = wr := ⟨_, rfl⟩
            go_wp2_with fail
            clear c3
            go_loopw [11, 48] (fun av iv Y => ∃ (k : Nat) (a : Int), k ≤ s.xs.length ∧ av = .int .i64 a ∧ iv = .int .i64 k ∧ Below w8.heap.size w8 Y ∧ Hid ((a = -1 ∨ 0 ≤ a) ∧ (k0 < k → 0 ≤ a))) (fun _ iv _ => s.xs.length - (intOf iv).toNat)
            case atStart => exact ⟨0, -1, Nat.zero_le _, rfl, rfl, Below.refl _ _, Lib.hid ⟨.inl rfl, fun h => by omega⟩⟩
            case round =>
              obtain ⟨k, a, hk, rfl, rfl, hb, HAT⟩ := hrel
              have HB10 := Lib.hid hb
              have hz10 := hb.size
              clear hb
              by_cases hltx : k < s.xs.length
              · have hltx' : (k : Int) < (s.xs.length : Int) := by omega
                obtain ⟨x, hx⟩ : ∃ x, s.xs[k]? = some x := ⟨_, List.getElem?_eq_getElem hltx⟩
                obtain ⟨b1, o1, hA1, hb1, q0, q1, q2, q3, q4, q5, q6, q7, q8, q9⟩ := inc_at ((HIN2.out.i.below HB9.out).below (HB10.out.mono hbz9)) hx
                obtain ⟨iA, hiA⟩ : ∃ A, A = s.iA := ⟨_, rfl⟩
                rw [← hiA] at hA1 ⊢
                subst hA1
                have HIA := Lib.hid hiA
                have HX := Lib.hid hx
                have HBR : Hid (Below w2.heap.size w2 wr) := Lib.hid (HB9.out.trans (HB10.out.mono hbz9))
                obtain ⟨X, hX⟩ : ∃ X, X = wr.alloc (.cells #[.int .i64 x.id, .int .i64 x.urg, .string x.code, .slice x.nA x.nodes.length x.nc, .int .i64 x.dist, .int .i64 x.since, .slice x.cA x.cl x.cc, .slice x.uA x.ul x.uc, .int .i64 x.merged, .bool x.closed] 46) := ⟨_, rfl⟩
                have hwx : Below wr.heap.size wr X := by rw [hX]; exact (Below.refl _ _).alloc (Nat.le_refl _) _
                have hk13 : Blk X wr.heap.size 46 [.int .i64 x.id, .int .i64 x.urg, .string x.code, .slice x.nA x.nodes.length x.nc, .int .i64 x.dist, .int .i64 x.since, .slice x.cA x.cl x.cc, .slice x.uA x.ul x.uc, .int .i64 x.merged, .bool x.closed] := by
                  rw [hX]
                  exact blk_new wr [.int .i64 x.id, .int .i64 x.urg, .string x.code, .slice x.nA x.nodes.length x.nc, .int .i64 x.dist, .int .i64 x.since, .slice x.cA x.cl x.cc, .slice x.uA x.ul x.uc, .int .i64 x.merged, .bool x.closed] 46
                have HBX3 : Hid (Below w2.heap.size w2 X) := Lib.hid (HBR.out.trans (hwx.mono HBR.out.size))
                have HB11 : Hid (Below w8.heap.size w8 X) := Lib.hid (HB10.out.trans (hwx.mono hz10))
                obtain ⟨g0, g1, g2, _, _, _, _⟩ := HBX2.out.below hz2 HBX3.out
                have h6 := HK6'.out.below HB11.out (by omega)
                have h7 := HU7.out.below HB11.out (by omega)
                obtain ⟨b13, hb13⟩ : ∃ b, b = wr.heap.size := ⟨_, rfl⟩
                have hzX : X.heap.size = b13 + 1 := by rw [hX, hb13]; simp
                rw [← hb13] at hk13
                have HLT : Hid (w.heap.size < X.heap.size ∧ b6 < X.heap.size ∧ b7 < X.heap.size ∧ b13 < X.heap.size) := Lib.hid (by omega)
                have hsh : SHeld w.heap.size b6 b7 b13 s c u0 x x.closed X X := ⟨g0, g1, g2, h6.cell (j := 0) rfl, h6.cell (j := 3) rfl, h7.cell (j := 4) rfl, hk13.cell (j := 0) rfl, hk13.cell (j := 3) rfl, hk13.cell (j := 8) rfl, hk13.cell (j := 9) rfl, Below.refl _ _⟩
                have HH0 := Lib.hid hsh
                have hbw : b1 < wr.heap.size := by omega
                clear hx hiA hwx hk13 h6 h7 g0 g1 g2 hsh
                go_upto_region 20 with fail
                rw [← hX]
                rw [← hb13]
                clear hX hb13 q0 q1 q2 q3 q4 q5 q6 q7 q8 q9 hzX hbw
                have HK0 : Hid (k = k0 → x = x0) := Lib.hid (fun e => by
                  subst e
                  have := HX.out
                  rw [HX0.out.1] at this
                  injection this with this
                  exact this.symm)
                by_cases h1 : x.id = c.inc
                · have d1 : (x.id == c.inc) = true := by simp [h1]
                  obtain ⟨xc, hxc⟩ : ∃ xc, xc = x.closed := ⟨_, rfl⟩
                  rw [← hxc] at HH0
                  cases xc with
                  | true =>
                    have HNK : Hid (k ≠ k0) := Lib.hid (fun e => by
                      have h := HX0.out.2.1
                      rw [← HK0.out e] at h
                      unfold openI at h
                      rw [← hxc] at h
                      cases h)
                    obtain ⟨y0, y1, y2, y3, y4, y5, y6, y7, y8, y9, _⟩ := HH0.out
                    clear h1 hxc
                    go_quiet (fail)
                    go_wp2_with fail
                    go_roundw
                    case rel => exact ⟨k + 1, a, by omega, rfl, by go_num, ⟨HB11.out.os, HB11.out.tape, HB11.out.output, HB11.out.size, HB11.out.block⟩, Lib.hid ⟨HAT.out.1, fun h => HAT.out.2 (by have := HNK.out; omega)⟩⟩
                    case measure => simp [intOf]; omega
                  | false =>
                    by_cases h8 : x.merged = 0
                    · have d8 : (x.merged == 0) = true := by simp [h8]
                      obtain ⟨tv, htv⟩ : ∃ tv, tv = farL Ds x.nodes := ⟨_, rfl⟩
                      have HTC : Hid (∀ Y, SHeld w.heap.size b6 b7 b13 s c u0 x false X Y → Calls Tryz.prog 11 #[.agg #[.int .i64 s.z, .slice s.eA s.E.length s.ec], .slice s.tA s.ts.length s.tc, .int .i64 u0.node, .slice x.nA x.nodes.length x.nc] Y fun e Y' => e = .returned (.int .i64 tv) ∧ Below Y.heap.size Y Y') := Lib.hid (fun Y hY => by
                        have hbY : Below w2.heap.size w2 Y := HBX3.out.trans (hY.2.2.2.2.2.2.2.2.2.2.mono HBX3.out.size)
                        have hIY := HIN2.out.next hbY
                        rw [HNN.out, htv]
                        exact refTime35_any n s.E s.eA s.tA x.nA s.ec s.tc x.nc s.ts x.nodes Ds u0.node Y HOK.out.hn HOK.out.hE hIY.e HOK.out.hok hIY.t (hIY.n x (List.mem_of_getElem? HX.out)) (by have := HOK.out.hsml x (List.mem_of_getElem? HX.out); omega) HDS.out)
                      have HNX := Lib.hid (fun (Y Y' : World) (h : SHeld w.heap.size b6 b7 b13 s c u0 x false X Y) (hb : Below Y.heap.size Y Y') => SHeld.below h HLT.out hb)
                      have HH := Lib.hid (HNX.out _ _ HH0.out (show Below X.heap.size X X.drew from ⟨rfl, rfl, rfl, Nat.le_refl _, fun _ _ => rfl⟩))
                      by_cases hq : tv = c.time
                      · have d9 : (tv == c.time) = true := by simp [hq]
                        clear h1 hxc h8 hq htv
                        go_region_held3 (fun w' => w'.cell? ⟨w.heap.size, 0, none⟩ = some (.int .i64 s.z) ∧ w'.cell? ⟨w.heap.size, 1, none⟩ = some (.slice s.eA s.E.length s.ec) ∧ w'.cell? ⟨w.heap.size, 2, none⟩ = some (.slice s.tA s.ts.length s.tc) ∧ w'.cell? ⟨b6, 0, none⟩ = some (.int .i64 c.inc) ∧ w'.cell? ⟨b6, 3, none⟩ = some (.int .i64 c.time) ∧ w'.cell? ⟨b7, 4, none⟩ = some (.int .i64 u0.node) ∧ w'.cell? ⟨b13, 0, none⟩ = some (.int .i64 x.id) ∧ w'.cell? ⟨b13, 3, none⟩ = some (.slice x.nA x.nodes.length x.nc) ∧ w'.cell? ⟨b13, 8, none⟩ = some (.int .i64 x.merged) ∧ w'.cell? ⟨b13, 9, none⟩ = some (.bool false) ∧ Below X.heap.size X w')
                          (first | exact HH.out | exact HNX.out _ _ (by assumption) hbi)
                          (first | (go_at_call 11; (with_reducible refine (HTC.out _ (by first | assumption | exact HH.out)).mono ?_); rintro e w' ⟨rfl, hbi⟩))
                        have hf : SHeld w.heap.size b6 b7 b13 s c u0 x false X w' := by assumption
                        have HFB : Hid (Below w8.heap.size w8 w') := Lib.hid (HB11.out.trans (hf.2.2.2.2.2.2.2.2.2.2.mono HB11.out.size))
                        clear hf hbi
                        go_wp2_with fail
                        go_roundw
                        case rel => exact ⟨k + 1, (k : Int), by omega, rfl, by go_num, HFB.out, Lib.hid ⟨.inr (by omega), fun _ => by omega⟩⟩
                        case measure => simp [intOf]; omega
                      · have d9 : (tv == c.time) = false := by simp [hq]
                        have HNK : Hid (k ≠ k0) := Lib.hid (fun e => by
                          have h := HX0.out.2.2.2
                          rw [← HK0.out e] at h
                          exact hq (htv.trans (TT.unique ⟨Ds, HDS.out, rfl⟩ h)))
                        clear h1 hxc h8 hq htv
                        go_region_held3 (fun w' => w'.cell? ⟨w.heap.size, 0, none⟩ = some (.int .i64 s.z) ∧ w'.cell? ⟨w.heap.size, 1, none⟩ = some (.slice s.eA s.E.length s.ec) ∧ w'.cell? ⟨w.heap.size, 2, none⟩ = some (.slice s.tA s.ts.length s.tc) ∧ w'.cell? ⟨b6, 0, none⟩ = some (.int .i64 c.inc) ∧ w'.cell? ⟨b6, 3, none⟩ = some (.int .i64 c.time) ∧ w'.cell? ⟨b7, 4, none⟩ = some (.int .i64 u0.node) ∧ w'.cell? ⟨b13, 0, none⟩ = some (.int .i64 x.id) ∧ w'.cell? ⟨b13, 3, none⟩ = some (.slice x.nA x.nodes.length x.nc) ∧ w'.cell? ⟨b13, 8, none⟩ = some (.int .i64 x.merged) ∧ w'.cell? ⟨b13, 9, none⟩ = some (.bool false) ∧ Below X.heap.size X w')
                          (first | exact HH.out | exact HNX.out _ _ (by assumption) hbi)
                          (first | (go_at_call 11; (with_reducible refine (HTC.out _ (by first | assumption | exact HH.out)).mono ?_); rintro e w' ⟨rfl, hbi⟩))
                        have hf : SHeld w.heap.size b6 b7 b13 s c u0 x false X w' := by assumption
                        have HFB : Hid (Below w8.heap.size w8 w') := Lib.hid (HB11.out.trans (hf.2.2.2.2.2.2.2.2.2.2.mono HB11.out.size))
                        clear hf hbi
                        go_wp2_with fail
                        go_roundw
                        case rel => exact ⟨k + 1, a, by omega, rfl, by go_num, HFB.out, Lib.hid ⟨HAT.out.1, fun h => HAT.out.2 (by have := HNK.out; omega)⟩⟩
                        case measure => simp [intOf]; omega
                    · have d8 : (x.merged == 0) = false := by simp [h8]
                      have HNK : Hid (k ≠ k0) := Lib.hid (fun e => by
                        have h := HX0.out.2.1
                        rw [← HK0.out e] at h
                        unfold openI at h
                        rw [d8, Bool.and_false] at h
                        cases h)
                      obtain ⟨y0, y1, y2, y3, y4, y5, y6, y7, y8, y9, _⟩ := HH0.out
                      clear h1 hxc h8
                      go_quiet (fail)
                      go_wp2_with fail
                      go_roundw
                      case rel => exact ⟨k + 1, a, by omega, rfl, by go_num, ⟨HB11.out.os, HB11.out.tape, HB11.out.output, HB11.out.size, HB11.out.block⟩, Lib.hid ⟨HAT.out.1, fun h => HAT.out.2 (by have := HNK.out; omega)⟩⟩
                      case measure => simp [intOf]; omega
                · have d1 : (x.id == c.inc) = false := by simp [h1]
                  have HNK : Hid (k ≠ k0) := Lib.hid (fun e => h1 (by rw [HK0.out e]; exact HX0.out.2.2.1.symm))
                  obtain ⟨y0, y1, y2, y3, y4, y5, y6, y7, y8, y9, _⟩ := HH0.out
                  clear h1
                  go_quiet (fail)
                  go_wp2_with fail
                  go_roundw
                  case rel => exact ⟨k + 1, a, by omega, rfl, by go_num, ⟨HB11.out.os, HB11.out.tape, HB11.out.output, HB11.out.size, HB11.out.block⟩, Lib.hid ⟨HAT.out.1, fun h => HAT.out.2 (by have := HNK.out; omega)⟩⟩
                  case measure => simp [intOf]; omega
              · obtain rfl : k = s.xs.length := by omega
                have ha := HAT.out.2 hk0
                have da : decide (a < 0) = false := decide_eq_false (by omega)
                have da2 : ¬ a < 0 := by omega
                have ds : (u0.state != 1) = false := by rw [HU0.out.2.2.1]; rfl
                have dt : (c.time == 4611686018427387904) = false := by have := HTM.out; simpa using this
                have h6 := HK6'.out.below HB10.out (by omega)
                have h7 := HU7.out.below HB10.out (by omega)
                have y1 := h6.cell (j := 1) rfl
                have y2 := h6.cell (j := 2) rfl
                have y3 := h6.cell (j := 3) rfl
                have z1 := h7.cell (j := 1) rfl
                have z3 := h7.cell (j := 3) rfl
                have HDO : Hid (Calls Tryz.prog 12 #[.int .i64 u0.kind, .int .i64 c.kind] wr fun e Y => e = .returned (.bool true) ∧ wr = Y) := Lib.hid (by
                  have h := does_any u0.kind c.kind wr
                  rw [HU0.out.2.2.2] at h
                  exact h)
                have HB12 : Hid (Below w2.heap.size w2 wr) := Lib.hid (HB9.out.trans (HB10.out.mono hbz9))
                have hic : i ≤ c6' := by omega
                have H6 := Lib.hid h6
                clear h6 h7 ha
                obtain ⟨w9, rfl⟩ : ∃ w9 : World, w9 = wr := ⟨_, rfl⟩
                go_wp2_with fail
                ((with_reducible refine HDO.out.mono ?_))
                rintro e wd ⟨rfl, rfl⟩
                clear HDO
                go_wp2_with fail
                clear y1 y2 y3 z1 z3
                go_loopw [112] (fun iv Y => ∃ k : Nat, k ≤ i ∧ iv = .int .i64 k ∧ Below w9.heap.size w9 Y) (fun iv _ => i - (intOf iv).toNat)
                case atStart => exact ⟨0, Nat.zero_le _, rfl, Below.refl _ _⟩
                case round =>
                  obtain ⟨k, hk, rfl, hb⟩ := hrel
                  have HB13 := Lib.hid hb
                  have hz13 := hb.size
                  clear hb
                  by_cases hlk : k < i
                  · have hlk' : (k : Int) < (i : Int) := by omega
                    obtain ⟨d, hd⟩ : ∃ d, cs[k]? = some d := ⟨_, List.getElem?_eq_getElem (by omega)⟩
                    obtain ⟨b', o', e', hb', q0, q1, q2, q3⟩ := cho_at ((HCS.out.below HB12.out).below (HB13.out.mono HB12.out.size)) hd
                    injection e' with e'
                    injection e' with e1 e2
                    subst e1 e2
                    have y2 := (H6.out.below HB13.out (by omega)).cell (j := 2) rfl
                    have hne : (d.unit == c.unit) = false := by
                      obtain ⟨h1, e1⟩ := List.getElem?_eq_some_iff.1 hd
                      obtain ⟨h2, e2⟩ := List.getElem?_eq_some_iff.1 HC.out
                      have := List.pairwise_iff_getElem.1 HGD.out.2.1 k i h1 h2 hlk
                      rw [e1, e2] at this
                      simpa using this
                    have hbw6 : b6 < wr.heap.size := by omega
                    clear hd
                    go_wp2_with fail
                    go_roundw
                    case rel => exact ⟨k + 1, by omega, by go_num, HB13.out.alloc hz13 _⟩
                    case measure => simp [intOf]; omega
                  · obtain rfl : k = i := by omega
                    go_wp2_with fail
                    go_roundw
                    case rel => exact ⟨k + 1, by omega, by go_num, HB12.out.trans (HB13.out.mono HB12.out.size)⟩
                    case measure => simp [intOf]; omega
      · obtain rfl : i = cs.length := by omega
        obtain ⟨c0, c1, c2, c3, c4, c5, c6⟩ := HBX2.out.below hz2 HBY.out
        have HINr := Lib.hid (HIN2.out.next HBY.out)
        have HCN := Lib.hid (counted_any s wr HINr.out HWF.out)
        have HRR := Lib.hid (HR2.out.below HBY.out)
        have HBR := Lib.hid (HB2.out.trans (HBY.out.mono HB2.out.size))
        have hwr : w.heap.size < wr.heap.size := by omega
        go_wp2_with fail
        ((with_reducible refine HCN.out.mono ?_))
        rintro e w3 ⟨b, rfl, hbf, hb3⟩
        have HBF := Lib.hid hbf
        have HR3 := Lib.hid (HRR.out.below hb3)
        have HB3 := Lib.hid (HBR.out.trans (hb3.mono HBR.out.size))
        have HIN3 := Lib.hid (HINr.out.next hb3)
        obtain ⟨k0, k1, k2, k3, k4, k5, k6⟩ := HBX2.out.below hz2 (HBY.out.trans (hb3.mono HBY.out.size))
        clear hbf hb3 HCN c0 c1 c2 c3 c4 c5 c6
        cases b with
        | true =>
          go_wp2_with fail
          ((with_reducible refine (awake38_any _ HR3.out).mono ?_))
          rintro e w6 ⟨rfl, hb6⟩
          have HB6 := Lib.hid (HB3.out.trans (hb6.mono HB3.out.size))
          clear hb6
          go_wp2_with fail
          go_ret
          exact ⟨rfl, HB6.out⟩
        | false =>
          have HSL := Lib.hid (refSlots_any s.iA s.uA s.pA s.ic s.uc s.pc s.xs s.us s.ps w3 HIN3.out.i HIN3.out.n HWF.out.iw HOK.out.hl HIN3.out.u (by have := HOK.out.hul; omega) HIN3.out.p HWF.out.pl HOK.out.hsm)
          go_wp2_with fail
          ((with_reducible refine HSL.out.mono ?_))
          rintro e w4 ⟨A0, c9, ss, rfl, _, _, hst, _, hb4⟩
          have hle : cs.length ≤ ss.length := by
            have h1 := run_slots HF.out.dist (HBF.out (by first | rfl | trivial)) HRUN.out
            rw [← hst, List.length_map] at h1
            exact h1
          have dle : decide ((cs.length : Int) ≤ (ss.length : Int)) = true := decide_eq_true (by omega)
          have HR4 := Lib.hid (HR3.out.below hb4)
          have HB4 := Lib.hid (HB3.out.trans (hb4.mono HB3.out.size))
          clear hst hb4 HSL k0 k1 k2 k3 k4 k5 k6
          go_wp2_with fail
          ((with_reducible refine (awake38_any _ HR4.out).mono ?_))
          rintro e w6 ⟨rfl, hb6⟩
          have HB6 := Lib.hid (HB4.out.trans (hb6.mono HB4.out.size))
          clear hb6
          go_wp2_with fail
          go_ret
          exact ⟨rfl, HB6.out⟩
  · have HB1 := Lib.hid (HB.out.trans (hb1.mono HB.out.size))
    have HR1 := Lib.hid (HR.out.below hb1)
    clear hb1 HN HBX c0 c1 c2 c3 c4 c5 c6
    go_wp2_with fail
    ((with_reducible refine (awake38_any _ HR1.out).mono ?_))
    rintro e w6 ⟨rfl, hb6⟩
    have HB6 := Lib.hid (HB1.out.trans (hb6.mono HB1.out.size))
    clear hb6
    go_wp2_with fail
    go_ret
    exact ⟨rfl, HB6.out⟩
end
end Go.Proofs.YtimijjhdgihobaaGreatDoor
