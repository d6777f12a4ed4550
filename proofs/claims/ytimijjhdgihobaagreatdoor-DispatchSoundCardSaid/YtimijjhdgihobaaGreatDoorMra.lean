/-
  The state of samaritanref38 as it lies in memory; samaritanref38.Fine.
-/
import Derived.Test.YtimijjhdgihobaaGreatDoorMqzf
import Derived.Test.YtimijjhdgihobaaGreatDoorMqr
import Derived.Test.YtimijjhdgihobaaGreatDoorMqu
namespace Go.Proofs.YtimijjhdgihobaaGreatDoor
section
open Go.RowKit Go.Maps

structure StT where
  z : Int
  eA : Option Addr
  E : List EdgeT
  ec : Nat
  tA : Option Addr
  ts : List Int
  tc : Nat
  iA : Option Addr
  xs : List IncT
  ic : Nat
  uA : Option Addr
  us : List UnitT
  uc : Nat
  pA : Option Addr
  ps : List Plan
  pc : Nat
  rsv : Int
def StT.cells (s : StT) : List Value := [.int .i64 s.z, .slice s.eA s.E.length s.ec, .slice s.tA s.ts.length s.tc, .slice s.iA s.xs.length s.ic, .slice s.uA s.us.length s.uc, .slice s.pA s.ps.length s.pc, .int .i64 s.rsv]
structure StIn (w : World) (B : Nat) (s : StT) : Prop where
  e : EdgesAt w B s.eA s.E
  t : Sl w B s.tA (s.ts.map (Value.int .i64))
  i : IncsAt w B s.iA s.xs
  n : NodesAt w B s.xs
  u : UnitsAt w B s.uA s.us
  p : Plans w B s.pA s.ps
structure StWf (s : StT) : Prop where
  el : s.E.length ≤ 9223372036854775807
  en : s.eA = none → s.ec = 0
  tl : s.ts.length ≤ 9223372036854775807
  iw : ∀ x ∈ s.xs, IncWf x
  il : s.xs.length ≤ 9223372036854775807
  inn : s.iA = none → s.ic = 0
  uw : ∀ u ∈ s.us, UnitWf u
  ul : s.us.length ≤ s.uc
  ucap : s.uc ≤ 9223372036854775807
  un : s.uA = none → s.uc = 0
  pl : s.ps.length ≤ 9223372036854775807
section
variable {w w' : World} {B B' : Nat} {s : StT}
theorem StIn.below (h : StIn w B s) (hb : Below B w w') : StIn w' B s := ⟨h.e.below hb, h.t.below hb, h.i.below hb, h.n.below hb, h.u.below hb, h.p.below hb⟩
theorem StIn.more (h : StIn w B s) (hB : B ≤ B') : StIn w B' s := ⟨h.e.more hB, h.t.more hB, h.i.more hB, h.n.more hB, h.u.more hB, h.p.more hB⟩
theorem StIn.next (h : StIn w w.heap.size s) (hb : Below w.heap.size w w') : StIn w' w'.heap.size s := (h.below hb).more hb.size
end
structure FineP (s : StT) : Prop where
  right : RightP s.z s.E
  times : s.ts.length ≤ 60
  small : Small35 s.xs s.us s.ps
  ids : ∀ u ∈ s.us, 0 ≤ u.id ∧ u.id ≤ 255
  dist : ∀ (i j : Nat) (u v : UnitT), i < j → s.us[i]? = some u → s.us[j]? = some v → u.id ≠ v.id
def RetFine (w : World) (s : StT) (e : Ending) (w' : World) : Prop := ∃ b, e = .returned (.bool b) ∧ (b = true → FineP s) ∧ Below w.heap.size w w'
/-- the box of a state. -/
def stObj (s : StT) : Obj := .cells #[.int .i64 s.z, .slice s.eA s.E.length s.ec, .slice s.tA s.ts.length s.tc, .slice s.iA s.xs.length s.ic, .slice s.uA s.us.length s.uc, .slice s.pA s.ps.length s.pc, .int .i64 s.rsv] 30
structure BoxS (n : Nat) (s : StT) (W : World) : Prop where
  c0 : W.cell? ⟨n, 0, none⟩ = some (.int .i64 s.z)
  c1 : W.cell? ⟨n, 1, none⟩ = some (.slice s.eA s.E.length s.ec)
  c2 : W.cell? ⟨n, 2, none⟩ = some (.slice s.tA s.ts.length s.tc)
  c3 : W.cell? ⟨n, 3, none⟩ = some (.slice s.iA s.xs.length s.ic)
  c4 : W.cell? ⟨n, 4, none⟩ = some (.slice s.uA s.us.length s.uc)
  c5 : W.cell? ⟨n, 5, none⟩ = some (.slice s.pA s.ps.length s.pc)
  c6 : W.cell? ⟨n, 6, none⟩ = some (.int .i64 s.rsv)
theorem BoxS.below {n : Nat} {s : StT} {W W' : World} (h : BoxS n s W) {B : Nat} (hl : n < B) (hb : Below B W W') : BoxS n s W' :=
  ⟨(hb.cell (p := ⟨n, 0, none⟩) hl).trans h.c0, (hb.cell (p := ⟨n, 1, none⟩) hl).trans h.c1, (hb.cell (p := ⟨n, 2, none⟩) hl).trans h.c2, (hb.cell (p := ⟨n, 3, none⟩) hl).trans h.c3, (hb.cell (p := ⟨n, 4, none⟩) hl).trans h.c4, (hb.cell (p := ⟨n, 5, none⟩) hl).trans h.c5, (hb.cell (p := ⟨n, 6, none⟩) hl).trans h.c6⟩
theorem box_new (w : World) (s : StT) : BoxS w.heap.size s (w.alloc (stObj s)) := by
  unfold stObj
  constructor <;> · rw [World.cell?_alloc_at (hn := rfl)]; rfl
set_option maxRecDepth 100000 in
set_option maxHeartbeats 8000000 in
theorem fine_any (s : StT) (w : World) (hin : StIn w w.heap.size s) (hwf : StWf s) :
    Calls Tryz.prog 16 #[.agg #[.int .i64 s.z, .slice s.eA s.E.length s.ec, .slice s.tA s.ts.length s.tc, .slice s.iA s.xs.length s.ic, .slice s.uA s.us.length s.uc, .slice s.pA s.ps.length s.pc, .int .i64 s.rsv]] w (RetFine w s) := by
  obtain ⟨W, hW⟩ : ∃ W, W = w.alloc (stObj s) := ⟨_, rfl⟩
  have hbel : Below w.heap.size w W := by rw [hW]; exact (Below.refl _ _).alloc (Nat.le_refl _) _
  have hz : w.heap.size < W.heap.size := by rw [hW]; simp
  have hbx : BoxS w.heap.size s W := by rw [hW]; exact box_new w s
  have HB := Lib.hid hbel
  have HIN := Lib.hid (hin.next hbel)
  have HBX := Lib.hid hbx
  have HWF := Lib.hid hwf
  obtain ⟨c0, c1, c2, c3, c4, c5, c6⟩ := hbx
  have HR := Lib.hid (right_any s.z s.eA s.ec s.E W HIN.out.e HWF.out.el)
  have hW2 : W = w.alloc (.cells #[.int .i64 s.z, .slice s.eA s.E.length s.ec, .slice s.tA s.ts.length s.tc, .slice s.iA s.xs.length s.ic, .slice s.uA s.us.length s.uc, .slice s.pA s.ps.length s.pc, .int .i64 s.rsv] 30) := hW
  clear hbel hin hwf hW
  go_enter Tryz.func16, Tryz.ntmps16
  go_upto_region 1 with fail
  rw [← hW2]
  clear hW2
  go_wp2_with fail
  ((with_reducible refine HR.out.mono ?_))
  rintro e w1 ⟨b, rfl, hrp, hb1⟩
  have HRP := Lib.hid hrp
  have HB1 := Lib.hid (HB.out.trans (hb1.mono HB.out.size))
  have hbx1 := HBX.out.below hz hb1
  have HIN1 := Lib.hid (HIN.out.next hb1)
  have HX1 := Lib.hid hbx1
  have hz1 : w.heap.size < w1.heap.size := Nat.lt_of_lt_of_le hz hb1.size
  obtain ⟨c0, c1, c2, c3, c4, c5, c6⟩ := hbx1
  clear hrp hb1 HR
  cases b
  · go_wp2_with fail
    go_ret
    exact ⟨false, rfl, (fun h => by cases h), HB1.out⟩
  · by_cases h60 : 60 < s.ts.length
    · have h60' : decide ((60 : Int) < (s.ts.length : Int)) = true := decide_eq_true (by omega)
      go_wp2_with fail
      go_ret
      exact ⟨false, rfl, (fun h => by cases h), HB1.out⟩
    · have h60' : decide ((60 : Int) < (s.ts.length : Int)) = false := decide_eq_false (by omega)
      have HSM := Lib.hid (small35_any s.iA s.uA s.pA s.ic s.uc s.pc s.xs s.us s.ps w1 w1.heap.size HIN1.out.i HWF.out.iw HWF.out.il (Nat.le_trans HWF.out.ul HWF.out.ucap) HIN1.out.p HWF.out.pl)
      go_wp2_with fail
      ((with_reducible refine HSM.out.mono ?_))
      rintro e w2 ⟨b, rfl, hsm, rfl⟩
      have HS := Lib.hid hsm
      clear hsm HSM
      cases b
      · go_wp2_with fail
        go_ret
        exact ⟨false, rfl, (fun h => by cases h), HB1.out⟩
      · have hul := HWF.out.ul
        have huc := HWF.out.ucap
        go_wp2_with fail
        go_loopw [30] (fun iv Y => ∃ i : Nat, i ≤ s.us.length ∧ iv = .int .i64 i ∧ Below w1.heap.size w1 Y ∧ Hid ((∀ (k : Nat) (u : UnitT), k < i → s.us[k]? = some u → 0 ≤ u.id ∧ u.id ≤ 255) ∧ ∀ (a b : Nat) (u v : UnitT), a < b → b < i → s.us[a]? = some u → s.us[b]? = some v → u.id ≠ v.id)) (fun iv _ => s.us.length - (intOf iv).toNat)
        case atStart => exact ⟨0, Nat.zero_le _, rfl, Below.refl _ _, Lib.hid ⟨fun k u hk => by omega, fun a b u v hab hb => by omega⟩⟩
        case round =>
          obtain ⟨i, hi, rfl, hb, HI⟩ := hrel
          have HBY := Lib.hid hb
          have hbx2 := HX1.out.below hz1 hb
          have c4 := hbx2.c4
          have hzY := hb.size
          clear hb hbx2
          obtain ⟨wA, hwA⟩ : ∃ w', w' = wr := ⟨_, rfl⟩
          subst hwA
          by_cases hlt : i < s.us.length
          · have hlt' : (i : Int) < (s.us.length : Int) := by omega
            obtain ⟨u, hu⟩ : ∃ u, s.us[i]? = some u := ⟨_, List.getElem?_eq_getElem hlt⟩
            obtain ⟨b1, o1, hA1, hb1, q0, q1, q2, q3, q4, q5, q6, q7, q8, q9⟩ := unit_at (HIN1.out.u.below HBY.out) hu
            obtain ⟨uA, huA⟩ : ∃ A, A = s.uA := ⟨_, rfl⟩
            rw [← huA] at hA1 c4 ⊢
            subst hA1
            have HUA := Lib.hid huA
            have HU := Lib.hid hu
            have hbw : b1 < wA.heap.size := by omega
            have hiw : w1.heap.size ≤ wA.heap.size := hzY
            have hwA : w.heap.size < wA.heap.size := by omega
            have hwA2 : ¬ w.heap.size = wA.heap.size := by omega
            have hb2 : ¬ b1 = wA.heap.size := by omega
            clear hu huA
            by_cases hid : u.id < 0 ∨ 255 < u.id
            · rcases hid with h | h
              · go_wp2_with fail
                go_ret
                exact ⟨false, rfl, (fun h => by cases h), (HB1.out.trans (HBY.out.mono HB1.out.size)).alloc (by have := HB1.out.size; omega) _⟩
              · have h0 : ¬ u.id < 0 := by omega
                go_wp2_with fail
                go_ret
                exact ⟨false, rfl, (fun h => by cases h), (HB1.out.trans (HBY.out.mono HB1.out.size)).alloc (by have := HB1.out.size; omega) _⟩
            · have h0 : ¬ u.id < 0 := by omega
              have h1 : ¬ 255 < u.id := by omega
              have hic : i ≤ s.uc := by omega
              clear hid
              go_wp2_with fail
              go_loopw [48] (fun iv Y => ∃ j : Nat, j ≤ i ∧ iv = .int .i64 j ∧ Below wA.heap.size wA Y ∧ Y.cell? ⟨wA.heap.size, 0, none⟩ = some (.int .i64 u.id) ∧ wA.heap.size < Y.heap.size ∧ Hid (∀ (a : Nat) (v : UnitT), a < j → s.us[a]? = some v → v.id ≠ u.id)) (fun iv _ => i - (intOf iv).toNat)
              case atStart => exact ⟨0, Nat.zero_le _, rfl, below_newH _ _, by rw [World.cell?_alloc_at (hn := rfl)]; rfl, by simp, Lib.hid (fun a v ha => by omega)⟩
              case round =>
                obtain ⟨j, hj, rfl, hb, k0, hsz, HJ⟩ := hrel
                have HBJ := Lib.hid hb
                have hzr := hb.size
                by_cases hlj : j < i
                · have hlj' : (j : Int) < (i : Int) := by omega
                  obtain ⟨v, hv⟩ : ∃ v, s.us[j]? = some v := ⟨_, List.getElem?_eq_getElem (by omega)⟩
                  obtain ⟨b3, o3, hA3, hb3, r0, r1, r2, r3, r4, r5, r6, r7, r8, r9⟩ := unit_at ((HIN1.out.u.below HBY.out).below (hb.mono hzY)) hv
                  rw [← HUA.out] at hA3
                  injection hA3 with hA3
                  injection hA3 with hA4 hA5
                  subst hA4 hA5
                  have HV := Lib.hid hv
                  have m1 : ¬ wA.heap.size = wr.heap.size := by omega
                  clear hv hb
                  by_cases he : u.id = v.id
                  · have he' : (u.id == v.id) = true := by simpa using he
                    clear he
                    go_wp2_with fail
                    go_ret
                    exact ⟨false, rfl, (fun h => by cases h), ((HB1.out.trans (HBY.out.mono HB1.out.size)).trans (HBJ.out.mono (by have := HB1.out.size; omega))).alloc (by have := HB1.out.size; omega) _⟩
                  · have he' : (u.id == v.id) = false := by simpa using he
                    have HE := Lib.hid he
                    clear he
                    go_wp2_with fail
                    go_roundw
                    case rel =>
                      refine ⟨j + 1, by omega, by go_num, HBJ.out.alloc hzr _, (World.cell?_alloc_lt wr _ ⟨wA.heap.size, 0, none⟩ hsz).trans k0, by simp; omega, Lib.hid (fun a v' ha hv' => ?_)⟩
                      by_cases e : a = j
                      · subst e
                        rw [HV.out] at hv'
                        injection hv' with hv'
                        subst hv'
                        exact fun e => HE.out e.symm
                      · exact HJ.out a v' (by omega) hv'
                    case measure => simp [intOf]; omega
                · obtain rfl : j = i := by omega
                  clear hb
                  go_wp2_with fail
                  go_roundw
                  case rel =>
                    refine ⟨j + 1, by omega, by go_num, HBY.out.trans (HBJ.out.mono hzY), Lib.hid ⟨fun k u' hk hu' => ?_, fun a b u' v' hab hb' ha' hv' => ?_⟩⟩
                    · by_cases e : k = j
                      · subst e
                        rw [HU.out] at hu'
                        injection hu' with hu'
                        subst hu'
                        exact ⟨by omega, by omega⟩
                      · exact HI.out.1 k u' (by omega) hu'
                    · by_cases e : b = j
                      · subst e
                        rw [HU.out] at hv'
                        injection hv' with hv'
                        subst hv'
                        exact HJ.out a u' hab ha'
                      · exact HI.out.2 a b u' v' hab (by omega) ha' hv'
                  case measure => simp [intOf]; omega
          · obtain rfl : i = s.us.length := by omega
            go_wp2_with fail
            go_ret
            refine ⟨true, rfl, fun _ => ⟨HRP.out.1 trivial, by omega, HS.out trivial, fun u hu => ?_, fun a b u v hab ha hb => ?_⟩, HB1.out.trans (HBY.out.mono HB1.out.size)⟩
            · obtain ⟨k, hk⟩ := List.mem_iff_getElem?.1 hu
              exact HI.out.1 k u (List.getElem?_eq_some_iff.1 hk).1 hk
            · exact HI.out.2 a b u v hab (List.getElem?_eq_some_iff.1 hb).1 ha hb
end
end Go.Proofs.YtimijjhdgihobaaGreatDoor
