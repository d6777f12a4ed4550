/-
  samaritanref35.Small, SameSlots and samaritanlaw35.slots.
-/
import Derived.Test.YtpomakmmjbimfaaRefSlots
import Derived.RegionTactic
import Derived.BigRegion
import Derived.Deep.DeepCutAuto
namespace Go.Proofs.Ytpomakmmjbimfaa
open Go.RowKit Go.Maps

def Small35 (xs : List IncT) (us : List UnitT) (ps : List Plan) : Prop := xs.length ≤ 10 ∧ us.length ≤ 12 ∧ smallP ps = true ∧ ps.length ≤ 12 ∧ ∀ x ∈ xs, x.nodes.length ≤ 20
def RetSmall (w : World) (xs : List IncT) (us : List UnitT) (ps : List Plan) (e : Ending) (w' : World) : Prop := ∃ b, e = .returned (.bool b) ∧ (b = true → Small35 xs us ps) ∧ w = w'

set_option maxRecDepth 100000 in
set_option maxHeartbeats 2000000 in
theorem small35_any (A A1 A2 : Option Addr) (c c1 c2 : Nat) (xs : List IncT) (us : List UnitT) (ps : List Plan) (w : World) (B : Nat) (hi : IncsAt w B A xs) (hwf : ∀ x ∈ xs, IncWf x) (hl : xs.length ≤ 9223372036854775807) (hul : us.length ≤ 9223372036854775807) (hp : Plans w B A2 ps) (hpl : ps.length ≤ 9223372036854775807) :
    Calls Try.prog 19 #[.slice A xs.length c, .slice A1 us.length c1, .slice A2 ps.length c2] w (RetSmall w xs us ps) := by
  have HI := Lib.hid hi
  have HWF := Lib.hid hwf
  have HSP := Lib.hid (small_any A2 c2 ps w B hp hpl)
  clear hi hwf hp
  go_enter Try.func19, Try.ntmps19
  go_wp2_with fail
  go_loop [7] (fun i => ∃ k : Nat, k ≤ xs.length ∧ i = .int .i64 k ∧ ∀ x ∈ xs.take k, x.nodes.length ≤ 20) (fun i => xs.length - (intOf i).toNat)
  case atStart => exact ⟨0, Nat.zero_le _, rfl, by simp⟩
  case round =>
    obtain ⟨k, hk, rfl, hall⟩ := hrel
    have HALL := Lib.hid hall
    clear hall
    by_cases hlt : k < xs.length
    · obtain ⟨x, hx⟩ : ∃ x, xs[k]? = some x := ⟨xs[k], by simp⟩
      obtain ⟨b, o, rfl, _, _, _, h2, h3, _, _, h6, h7, _⟩ := inc_at HI.out hx
      have hwx := HWF.out x (List.mem_of_getElem? hx)
      have g1 := hwx.nlen
      have g2 := hwx.ncap
      have g3 := hwx.code
      have g4 := hwx.cl
      have g5 := hwx.ul
      have HX := Lib.hid hx
      have hkj : (k : Int) < (xs.length : Int) := by omega
      clear hx hwx
      by_cases q1 : 20 < x.nodes.length
      · have d1 : decide ((20 : Int) < (x.nodes.length : Int)) = true := decide_eq_true (by omega)
        go_wp2_with fail
        go_ret
        exact ⟨false, rfl, (fun h => by cases h), rfl⟩
      · have d1 : decide ((20 : Int) < (x.nodes.length : Int)) = false := decide_eq_false (by omega)
        by_cases q2 : 100 < x.code.size
        · have d2 : decide ((100 : Int) < (x.code.size : Int)) = true := decide_eq_true (by omega)
          go_wp2_with fail
          go_ret
          exact ⟨false, rfl, (fun h => by cases h), rfl⟩
        · have d2 : decide ((100 : Int) < (x.code.size : Int)) = false := decide_eq_false (by omega)
          by_cases q3 : 40 < x.cl
          · have d3 : decide ((40 : Int) < (x.cl : Int)) = true := decide_eq_true (by omega)
            go_wp2_with fail
            go_ret
            exact ⟨false, rfl, (fun h => by cases h), rfl⟩
          · have d3 : decide ((40 : Int) < (x.cl : Int)) = false := decide_eq_false (by omega)
            by_cases q4 : 40 < x.ul
            · have d4 : decide ((40 : Int) < (x.ul : Int)) = true := decide_eq_true (by omega)
              go_wp2_with fail
              go_ret
              exact ⟨false, rfl, (fun h => by cases h), rfl⟩
            · have d4 : decide ((40 : Int) < (x.ul : Int)) = false := decide_eq_false (by omega)
              go_wp2_with fail
              go_round
              case rel =>
                refine ⟨k + 1, by omega, by go_num, ?_⟩
                rw [take_snoc' HX.out]
                intro y hy
                rcases List.mem_append.1 hy with hy | hy
                · exact HALL.out y hy
                · simp at hy
                  subst hy
                  omega
              case measure => simp [intOf]; omega
    · have hkk : k = xs.length := by omega
      subst hkk
      by_cases q1 : xs.length ≤ 10
      · have d1 : decide ((xs.length : Int) ≤ 10) = true := decide_eq_true (by omega)
        by_cases q2 : us.length ≤ 12
        · have d2 : decide ((us.length : Int) ≤ 12) = true := decide_eq_true (by omega)
          go_wp2_with fail
          refine HSP.out.mono ?_
          rintro e w' ⟨rfl, rfl⟩
          cases hs : smallP ps
          · clear hs
            go_wp2_with fail
            go_ret
            exact ⟨false, rfl, (fun h => by cases h), rfl⟩
          · have HS := Lib.hid hs
            clear hs
            go_wp2_with fail
            go_ret
            refine ⟨_, rfl, fun h => ⟨q1, q2, HS.out, ?_, ?_⟩, rfl⟩
            · simp at h
              omega
            · have := HALL.out
              rw [List.take_length] at this
              exact this
        · have d2 : decide ((us.length : Int) ≤ 12) = false := decide_eq_false (by omega)
          go_wp2_with fail
          go_ret
          exact ⟨false, rfl, (fun h => by cases h), rfl⟩
      · have d1 : decide ((xs.length : Int) ≤ 10) = false := decide_eq_false (by omega)
        go_wp2_with fail
        go_ret
        exact ⟨false, rfl, (fun h => by cases h), rfl⟩

/-- conversion to the reference's slots: the same records. -/
def RetConv (w : World) (ss : List SlotT) (e : Ending) (w' : World) : Prop := ∃ (A : Option Addr) (c : Nat), e = .returned (.slice A ss.length c) ∧ SlotsAt w' w'.heap.size A ss ∧ Below w.heap.size w w'
set_option maxRecDepth 100000 in
set_option maxHeartbeats 2000000 in
theorem conv_any (A : Option Addr) (c : Nat) (ss : List SlotT) (w : World) (hs : SlotsAt w w.heap.size A ss) (hl : ss.length ≤ 65536) :
    Calls Try.prog 21 #[.slice A ss.length c] w (RetConv w ss) := by
  have HS := Lib.hid hs
  clear hs
  go_enter Try.func21, Try.ntmps21
  go_wp2_with fail
  go_loopw [3, 8] (fun v i wr => ∃ k : Nat, k ≤ ss.length ∧ i = .int .i64 k ∧ OwnSlot wr w.heap.size 46 v (ss.take k) ∧ Below w.heap.size w wr) (fun _ i _ => ss.length - (intOf i).toNat)
  case atStart => exact ⟨0, Nat.zero_le _, rfl, OwnR.nil _ _ _, Below.refl _ _⟩
  case round =>
    obtain ⟨k, hk, rfl, hown, hb⟩ := hrel
    have hmb := hb.size
    have htl : (ss.take k).length ≤ k := List.length_take_le _ _
    by_cases hlt : k < ss.length
    · obtain ⟨s, hx⟩ : ∃ s, ss[k]? = some s := ⟨ss[k], by simp⟩
      obtain ⟨bu, ou, rfl, hbu, c0, c1, c2, c3, c4⟩ := slot_at (HS.out.below hb) hx
      have HT : Hid (ss.take (k + 1) = ss.take k ++ [s]) := Lib.hid (take_snoc' hx)
      have HBA := Lib.hid (hb.alloc hmb (.cells #[.int .i64 s.inc, .int .i64 s.urg, .int .i64 s.since, .int .i64 s.kind, .slice s.nA s.nodes.length s.nc] 48))
      replace hown := hown.alloc (.cells #[.int .i64 s.inc, .int .i64 s.urg, .int .i64 s.since, .int .i64 s.kind, .slice s.nA s.nodes.length s.nc] 48)
      clear hx hb
      go_wp2_with (at_builtin; refine wpList_append_rec _ rfl _ _ 41 rfl w.heap.size 46 Try.underlying41 rslot_info rfl (by omega) (by omega) cellsS_len _ _ (wr.alloc (.cells #[.int .i64 s.inc, .int .i64 s.urg, .int .i64 s.since, .int .i64 s.kind, .slice s.nA s.nodes.length s.nc] 48)) s (cellsS_one _) _ rfl rfl rfl hown _ rfl (by simp) (by omega) (by simp; omega) ?_; intro v1 w1 hown1 hg1)
      go_roundw
      case rel =>
        refine ⟨k + 1, by omega, by go_num, ?_, HBA.out.grown hg1 HBA.out.size (fun j hj => hown.ge_base _ hj)⟩
        rw [HT.out]
        exact hown1
      case measure => simp [intOf]; omega
    · have hkk : k = ss.length := by omega
      subst hkk
      rw [List.take_length] at hown
      obtain ⟨A9, c9, rfl, hsl⟩ := hown.sl
      have HF := Lib.hid hsl
      clear hown hsl
      go_wp2_with fail
      go_ret
      exact ⟨A9, c9, rfl, HF.out, hb⟩

structure TwoBoxes (w : World) (bx by_ : Nat) (s t : SlotT) (wx : World) : Prop where
  x0 : wx.cell? ⟨bx, 0, none⟩ = some (.int .i64 s.inc)
  x1 : wx.cell? ⟨bx, 1, none⟩ = some (.int .i64 s.urg)
  x2 : wx.cell? ⟨bx, 2, none⟩ = some (.int .i64 s.since)
  x3 : wx.cell? ⟨bx, 3, none⟩ = some (.int .i64 s.kind)
  x4 : wx.cell? ⟨bx, 4, none⟩ = some (.slice s.nA s.nodes.length s.nc)
  y0 : wx.cell? ⟨by_, 0, none⟩ = some (.int .i64 t.inc)
  y1 : wx.cell? ⟨by_, 1, none⟩ = some (.int .i64 t.urg)
  y2 : wx.cell? ⟨by_, 2, none⟩ = some (.int .i64 t.since)
  y3 : wx.cell? ⟨by_, 3, none⟩ = some (.int .i64 t.kind)
  y4 : wx.cell? ⟨by_, 4, none⟩ = some (.slice t.nA t.nodes.length t.nc)
  below : Below w.heap.size w wx

def objS (s : SlotT) : Obj := .cells #[.int .i64 s.inc, .int .i64 s.urg, .int .i64 s.since, .int .i64 s.kind, .slice s.nA s.nodes.length s.nc] 46
theorem two_boxes {w wr : World} (hb : Below w.heap.size w wr) (s t : SlotT) : TwoBoxes w wr.heap.size (wr.heap.size + 1) s t ((wr.alloc (objS s)).alloc (objS t)).drew := by
  have ka : ∀ j, ((wr.alloc (objS s)).alloc (objS t)).drew.cell? ⟨wr.heap.size, j, none⟩ = (wr.alloc (objS s)).cell? ⟨wr.heap.size, j, none⟩ := fun j => World.cell?_alloc_lt _ _ _ (by simp)
  have kb : ∀ j, ((wr.alloc (objS s)).alloc (objS t)).drew.cell? ⟨wr.heap.size + 1, j, none⟩ = ((wr.alloc (objS s)).alloc (objS t)).cell? ⟨wr.heap.size + 1, j, none⟩ := fun j => rfl
  refine ⟨?_, ?_, ?_, ?_, ?_, ?_, ?_, ?_, ?_, ?_, ((hb.alloc hb.size _).alloc (by have := hb.size; simp; omega) _).drew⟩
  · rw [ka, objS, World.cell?_alloc_at (hn := rfl)]; rfl
  · rw [ka, objS, World.cell?_alloc_at (hn := rfl)]; rfl
  · rw [ka, objS, World.cell?_alloc_at (hn := rfl)]; rfl
  · rw [ka, objS, World.cell?_alloc_at (hn := rfl)]; rfl
  · rw [ka, objS, World.cell?_alloc_at (hn := rfl)]; rfl
  · rw [kb, objS, objS, World.cell?_alloc_at (hn := by simp)]; rfl
  · rw [kb, objS, objS, World.cell?_alloc_at (hn := by simp)]; rfl
  · rw [kb, objS, objS, World.cell?_alloc_at (hn := by simp)]; rfl
  · rw [kb, objS, objS, World.cell?_alloc_at (hn := by simp)]; rfl
  · rw [kb, objS, objS, World.cell?_alloc_at (hn := by simp)]; rfl
theorem TwoBoxes.swap {w wx : World} {bx by_ : Nat} {s t : SlotT} (h : TwoBoxes w bx by_ s t wx) : TwoBoxes w by_ bx t s wx := ⟨h.y0, h.y1, h.y2, h.y3, h.y4, h.x0, h.x1, h.x2, h.x3, h.x4, h.below⟩

set_option maxRecDepth 100000 in
set_option maxHeartbeats 2000000 in
theorem sameSlots_any (A C : Option Addr) (c d : Nat) (ss tt : List SlotT) (w : World) (hs : SlotsAt w w.heap.size A ss) (ht : SlotsAt w w.heap.size C tt) (ns : SNodes w w.heap.size ss) (nt : SNodes w w.heap.size tt) (he : ss.map strip = tt.map strip) (hl : ss.length ≤ 65536) (hnl : ∀ s ∈ ss, s.nodes.length ≤ 65536) :
    Calls Try.prog 20 #[.slice A ss.length c, .slice C tt.length d] w fun e w' => e = .returned (.bool true) ∧ Below w.heap.size w w' := by
  have hlen : tt.length = ss.length := by
    have := congrArg List.length he
    simpa using this.symm
  have HS := Lib.hid hs
  have HT := Lib.hid ht
  have HNS := Lib.hid ns
  have HNT := Lib.hid nt
  have HE := Lib.hid he
  have HLEN := Lib.hid hlen
  have HNL := Lib.hid hnl
  rw [hlen]
  clear hs ht ns nt he hlen hnl
  have dn : ((ss.length : Int) != (ss.length : Int)) = false := by simp
  have dn' : (ss.length != ss.length) = false := by simp
  go_enter Try.func20, Try.ntmps20
  go_wp2_with fail
  go_loopw [5] (fun i wr => ∃ k : Nat, k ≤ ss.length ∧ i = .int .i64 k ∧ Below w.heap.size w wr) (fun i _ => ss.length - (intOf i).toNat)
  case atStart => exact ⟨0, Nat.zero_le _, rfl, Below.refl _ _⟩
  case round =>
    obtain ⟨k, hk, rfl, hb⟩ := hrel
    have HB := Lib.hid hb
    have hmb := hb.size
    by_cases hlt : k < ss.length
    · obtain ⟨s, hs⟩ : ∃ s, ss[k]? = some s := ⟨ss[k], by simp⟩
      obtain ⟨t, ht⟩ : ∃ t, tt[k]? = some t := ⟨tt[k]'(by rw [HLEN.out]; exact hlt), by simp⟩
      have hst : strip s = strip t := by
        have := congrArg (fun l => l[k]?) HE.out
        simp only [List.getElem?_map, hs, ht, Option.map_some, Option.some.injEq] at this
        exact this
      obtain ⟨bs, os, rfl, hbs, c0, c1, c2, c3, c4⟩ := slot_at (HS.out.below hb) hs
      obtain ⟨bt, ot, rfl, hbt, e0, e1, e2, e3, e4⟩ := slot_at (HT.out.below hb) ht
      have HNs : Hid (Sl w w.heap.size s.nA (s.nodes.map (Value.int .i64))) := Lib.hid (HNS.out s (List.mem_of_getElem? hs))
      have HNt : Hid (Sl w w.heap.size t.nA (t.nodes.map (Value.int .i64))) := Lib.hid (HNT.out t (List.mem_of_getElem? ht))
      have hnl : s.nodes.length ≤ 65536 := HNL.out s (List.mem_of_getElem? hs)
      obtain ⟨inc, urg, since, kind, nA, nodes, nc⟩ := s
      obtain ⟨inc', urg', since', kind', nA', nodes', nc'⟩ := t
      simp only [strip, SlotP.mk.injEq] at hst
      obtain ⟨rfl, rfl, rfl, rfl, rfl⟩ := hst
      simp only at c0 c1 c2 c3 c4 e0 e1 e2 e3 e4 HNs HNt hnl
      have hkj : (k : Int) < (ss.length : Int) := by omega
      have hbsl : bs < wr.heap.size := by omega
      have hbtl : bt < wr.heap.size := by omega
      have hbsl1 : bs < wr.heap.size + 1 := by omega
      have hbtl1 : bt < wr.heap.size + 1 := by omega
      have hbse : ¬ bs = wr.heap.size := by omega
      have hbte : ¬ bt = wr.heap.size := by omega
      have hbse1 : ¬ bs = wr.heap.size + 1 := by omega
      have hbte1 : ¬ bt = wr.heap.size + 1 := by omega
      clear hs ht hb
      go_upto_region 6 with (fail)
      go_cut [6, 7] (fun p q wx => ∃ bx by_, p = .pointer (some ⟨bx, 0, none⟩) ∧ q = .pointer (some ⟨by_, 0, none⟩) ∧ TwoBoxes w bx by_ ⟨inc, urg, since, kind, nA, nodes, nc⟩ ⟨inc, urg, since, kind, nA', nodes, nc'⟩ wx)
      case first =>
        go_region
        · go_wp2_with fail
          go_meet
          case rel => exact ⟨_, _, rfl, rfl, two_boxes HB.out ⟨inc, urg, since, kind, nA, nodes, nc⟩ ⟨inc, urg, since, kind, nA', nodes, nc'⟩⟩
        · go_wp2_with fail
          go_meet
          case rel => exact ⟨_, _, rfl, rfl, (two_boxes HB.out ⟨inc, urg, since, kind, nA', nodes, nc'⟩ ⟨inc, urg, since, kind, nA, nodes, nc⟩).swap⟩
      case rest =>
        obtain ⟨bx, by_, rfl, rfl, htb⟩ := hcut
        have HTB := Lib.hid htb
        obtain ⟨x0, x1, x2, x3, x4, y0, y1, y2, y3, y4, hbb⟩ := htb
        simp only at x0 x1 x2 x3 x4 y0 y1 y2 y3 y4
        have n1 : (inc != inc) = false := by simp
        have n2 : (urg != urg) = false := by simp
        have n3 : (since != since) = false := by simp
        have n4 : (kind != kind) = false := by simp
        have n5 : ((nodes.length : Int) != (nodes.length : Int)) = false := by simp
        have n5' : (nodes.length != nodes.length) = false := by simp
        have HBC := Lib.hid hbb
        clear hbb c0 c1 c2 c3 c4 e0 e1 e2 e3 e4
        go_wp2_with fail
        clear x0 x1 x2 x3 y0 y1 y2 y3
        obtain ⟨w1, rfl⟩ : ∃ w1 : World, w1 = wc := ⟨_, rfl⟩
        go_loopw [8] (fun jv wr => ∃ (j q : Nat), j ≤ nodes.length ∧ jv = .int .i64 j ∧ wr = w1.drewN q) (fun i _ => nodes.length - (intOf i).toNat)
        case atStart => exact ⟨0, 0, Nat.zero_le _, rfl, rfl⟩
        case round =>
          obtain ⟨j, q, hj, rfl, rfl⟩ := hrel
          by_cases hjl : j < nodes.length
          · obtain ⟨z, hz⟩ : ∃ z, nodes[j]? = some z := ⟨nodes[j], by simp⟩
            obtain ⟨b1, o1, rfl, _, z1⟩ := (HNs.out.below HBC.out).int hz
            obtain ⟨b2, o2, rfl, _, z2⟩ := (HNt.out.below HBC.out).int hz
            have nz : (z != z) = false := by simp
            have hjj : (j : Int) < (nodes.length : Int) := by omega
            clear hz
            go_wp2_with fail
            go_quiet (fail)
            go_wp2_with fail
            go_roundw
            case rel => exact ⟨j + 1, q + nq, by omega, by go_num, by first | rfl | rw [World.drewN_drewN]⟩
            case measure => simp [intOf]; omega
          · have hjj : j = nodes.length := by omega
            subst hjj
            go_wp2_with fail
            go_roundw
            case rel => exact ⟨k + 1, by omega, by go_num, below_drewN HBC.out q⟩
            case measure => simp [intOf]; omega
    · have hkk : k = ss.length := by omega
      subst hkk
      go_wp2_with fail
      go_ret
      exact ⟨rfl, hb⟩
end Go.Proofs.Ytpomakmmjbimfaa
