/-
  The walk of samaritanlaw31.ResponseplanTextFormat.
-/
import Derived.Test.YtcpplebgocbnhaaDoorRefR
import Derived.Deep.DeepCutAuto
namespace Go.Proofs.YtcpplebgocbnhaaDoor
open Go.RowKit Go.Maps

theorem plans_one {w : World} {b : Nat} (q : Plan) (hz : b < w.heap.size) (c0 : w.cell? ⟨b, 0, none⟩ = some (.string q.code)) (c1 : w.cell? ⟨b, 1, none⟩ = some (.int .i64 q.urg)) (c2 : w.cell? ⟨b, 2, none⟩ = some (.slice q.kA q.kinds.length q.kc))
    (hs : Sl w w.heap.size q.kA (q.kinds.map (Value.int .i64))) (hw : PlanWf q) : Plans w w.heap.size (some ⟨b, 0, none⟩) [q] := by
  intro i p hp
  cases i with
  | zero =>
    simp only [List.getElem?_cons_zero, Option.some.injEq] at hp
    subst hp
    exact ⟨⟨b, 0, rfl, hz, c0, c1, c2, hs⟩, hw⟩
  | succ i => simp at hp

set_option maxRecDepth 100000 in
set_option maxHeartbeats 4000000 in
theorem textFormat_walk (w : World) (q : Plan) (hq : Sl w w.heap.size q.kA (q.kinds.map (Value.int .i64))) (hw : PlanWf q) (s : ByteArray) (_ws : s.size ≤ maxLen) (hr : Ready w) (hn : NamesAt w) :
    Calls Tryd.prog 10 #[.agg #[.string q.code, .int .i64 q.urg, .slice q.kA q.kinds.length q.kc], .string s] w fun e w' => e = .returned (.bool true) ∧ Below w.heap.size w w' := by
  have hroom := hr.room
  have hcs := hw.code
  have hkc := hw.cap
  have hkl := hw.len
  have HB0 := Lib.hid ((Below.refl w.heap.size w).alloc (Nat.le_refl _) (.cells #[.string q.code, .int .i64 q.urg, .slice q.kA q.kinds.length q.kc] 35))
  have HQ := Lib.hid hq
  have HW := Lib.hid hw
  have HR := Lib.hid hr
  have HN := Lib.hid hn
  clear hq hw hr hn
  go_enter Tryd.func10, Tryd.ntmps10
  go_wp2_with fail
  refine (wakes_any _).mono ?_
  rintro e w1 ⟨rfl, hb1⟩
  have hz1 : w.heap.size < w1.heap.size := by have := hb1.size; simp at this; omega
  have c0 : w1.cell? ⟨w.heap.size, 0, none⟩ = some (.string q.code) := (hb1.cell (p := ⟨w.heap.size, 0, none⟩) (by simp)).trans (by simp)
  have c1 : w1.cell? ⟨w.heap.size, 1, none⟩ = some (.int .i64 q.urg) := (hb1.cell (p := ⟨w.heap.size, 1, none⟩) (by simp)).trans (by simp)
  have c2 : w1.cell? ⟨w.heap.size, 2, none⟩ = some (.slice q.kA q.kinds.length q.kc) := (hb1.cell (p := ⟨w.heap.size, 2, none⟩) (by simp)).trans (by simp)
  have HB1 := Lib.hid (below_then HB0.out hb1)
  clear hb1 HB0
  have hb2 := HB1.out.alloc (show w.heap.size ≤ w1.heap.size by omega) (.cells #[.string q.code, .int .i64 q.urg, .slice q.kA q.kinds.length q.kc] 35)
  have hsm := small_any (some ⟨w1.heap.size, 0, none⟩) 1 [q] (w1.alloc (.cells #[.string q.code, .int .i64 q.urg, .slice q.kA q.kinds.length q.kc] 35)) _
    (plans_one q (by simp) (by simp) (by simp) (by simp) ((HQ.out.below hb2).more hb2.size) HW.out) (by simp)
  have HSM := Lib.hid hsm
  have d0 : (w1.alloc (.cells #[.string q.code, .int .i64 q.urg, .slice q.kA q.kinds.length q.kc] 35)).cell? ⟨w.heap.size, 0, none⟩ = some (.string q.code) := (World.cell?_alloc_lt w1 _ ⟨w.heap.size, 0, none⟩ hz1).trans c0
  have d1 : (w1.alloc (.cells #[.string q.code, .int .i64 q.urg, .slice q.kA q.kinds.length q.kc] 35)).cell? ⟨w.heap.size, 1, none⟩ = some (.int .i64 q.urg) := (World.cell?_alloc_lt w1 _ ⟨w.heap.size, 1, none⟩ hz1).trans c1
  have d2 : (w1.alloc (.cells #[.string q.code, .int .i64 q.urg, .slice q.kA q.kinds.length q.kc] 35)).cell? ⟨w.heap.size, 2, none⟩ = some (.slice q.kA q.kinds.length q.kc) := (World.cell?_alloc_lt w1 _ ⟨w.heap.size, 2, none⟩ hz1).trans c2
  have HB2 := Lib.hid hb2
  have hz2 : w.heap.size < (w1.alloc (.cells #[.string q.code, .int .i64 q.urg, .slice q.kA q.kinds.length q.kc] 35)).heap.size := by simp; omega
  clear hb2 hsm
  have H0 := Lib.hid d0
  have H1 := Lib.hid d1
  have H2 := Lib.hid d2
  clear d0 d1 d2
  go_wp2_with fail
  refine HSM.out.mono ?_
  rintro e w' ⟨rfl, rfl⟩
  generalize w1.alloc (.cells #[.string q.code, .int .i64 q.urg, .slice q.kA q.kinds.length q.kc] 35) = w2 at *
  clear c0 c1 c2 HSM
  cases hsm : smallP [q]
  · clear hsm
    go_wp2_with fail
    go_ret
    exact ⟨rfl, HB2.out⟩
  clear hsm
  by_cases h300 : 300 < s.size
  · have d3 : decide ((300 : Int) < (s.size : Int)) = true := by simp; omega
    go_wp2_with fail
    go_ret
    exact ⟨rfl, HB2.out⟩
  have d3 : decide ((300 : Int) < (s.size : Int)) = false := by simp; omega
  have d0 := H0.out
  have d1 := H1.out
  have d2 := H2.out
  go_wp2_with fail
  refine (format31_any q w2 ((HQ.out.below HB2.out).more (by omega)) HW.out (HR.out.below HB2.out) (HN.out.keep HB2.out hroom)).mono ?_
  rintro e w3 ⟨rfl, hb3⟩
  have d0 : w3.cell? ⟨w.heap.size, 0, none⟩ = some (.string q.code) := (hb3.cell (p := ⟨w.heap.size, 0, none⟩) hz2).trans H0.out
  have d1 : w3.cell? ⟨w.heap.size, 1, none⟩ = some (.int .i64 q.urg) := (hb3.cell (p := ⟨w.heap.size, 1, none⟩) hz2).trans H1.out
  have d2 : w3.cell? ⟨w.heap.size, 2, none⟩ = some (.slice q.kA q.kinds.length q.kc) := (hb3.cell (p := ⟨w.heap.size, 2, none⟩) hz2).trans H2.out
  have hz3 : w.heap.size < w3.heap.size := by have := hb3.size; omega
  have HB3 := Lib.hid (below_then HB2.out hb3)
  clear hb3 HB2 HB1
  have H0 := Lib.hid d0
  have H1 := Lib.hid d1
  have H2 := Lib.hid d2
  obtain ⟨t, ht⟩ : ∃ t : ByteArray, t = if validB q = true then bs (textP q) else ⟨#[]⟩ := ⟨_, rfl⟩
  obtain ⟨er, her⟩ : ∃ er : Int, er = if validB q = true then 0 else 1 := ⟨_, rfl⟩
  rw [← ht, ← her]
  have HT := Lib.hid ht
  have HE := Lib.hid her
  clear ht her
  go_wp2_with fail
  refine (text31_any q w3 ((HQ.out.below HB3.out).more (by omega)) HW.out).mono ?_
  rintro e w4 ⟨he, hb4⟩
  rw [← HT.out, ← HE.out] at he
  subst he
  have d0 : w4.cell? ⟨w.heap.size, 0, none⟩ = some (.string q.code) := (hb4.cell (p := ⟨w.heap.size, 0, none⟩) hz3).trans H0.out
  have d1 : w4.cell? ⟨w.heap.size, 1, none⟩ = some (.int .i64 q.urg) := (hb4.cell (p := ⟨w.heap.size, 1, none⟩) hz3).trans H1.out
  have d2 : w4.cell? ⟨w.heap.size, 2, none⟩ = some (.slice q.kA q.kinds.length q.kc) := (hb4.cell (p := ⟨w.heap.size, 2, none⟩) hz3).trans H2.out
  have hz4 : w.heap.size < w4.heap.size := by have := hb4.size; omega
  have HB4 := Lib.hid (below_then HB3.out hb4)
  clear hb4 HB3
  have H0 := Lib.hid d0
  have H1 := Lib.hid d1
  have H2 := Lib.hid d2
  have tt : (t.toList == t.toList) = true := by simp
  have ee : (er == er) = true := by simp
  have ert : er = 0 ∨ er = 1 := by have := HE.out; split at this <;> omega
  go_upto_if 45 with fail
  go_cut [4] (fun v wx => v = .bool false ∧ Below w.heap.size w wx)
  case first =>
    cases hv : validB q
    · have h1 : er = 1 := by rw [HE.out, hv]; rfl
      subst h1
      clear hv
      go_wp2_with fail
      go_meet
      case rel => exact ⟨rfl, HB4.out⟩
    · have h1 : er = 0 := by rw [HE.out, if_pos hv]
      have h2 : t = bs (textP q) := by rw [HT.out, if_pos hv]
      subst h1 h2
      have htl : (bs (textP q)).size ≤ 1099511627 := by rw [bs_size]; have := text_len hv; omega
      have HV := Lib.hid hv
      clear hv
      go_wp2_with fail
      refine (parse31_any _ htl w4 (HR.out.below HB4.out) (HN.out.keep HB4.out hroom)).mono ?_
      rintro e w5 (⟨p, rfl, hpv, hpt, hpw, hps, hb5⟩ | ⟨_, hno, _⟩)
      · rw [bs_data] at hpt
        have hsame := text_inj hpv HV.out hpt
        have e0 : w5.cell? ⟨w.heap.size, 0, none⟩ = some (.string q.code) := (hb5.cell (p := ⟨w.heap.size, 0, none⟩) hz4).trans H0.out
        have e1 : w5.cell? ⟨w.heap.size, 1, none⟩ = some (.int .i64 q.urg) := (hb5.cell (p := ⟨w.heap.size, 1, none⟩) hz4).trans H1.out
        have e2 : w5.cell? ⟨w.heap.size, 2, none⟩ = some (.slice q.kA q.kinds.length q.kc) := (hb5.cell (p := ⟨w.heap.size, 2, none⟩) hz4).trans H2.out
        have hz5 : w.heap.size < w5.heap.size := by have := hb5.size; omega
        have hb5w := below_then HB4.out hb5
        have hb6w := hb5w.alloc (show w.heap.size ≤ w5.heap.size by omega) (.cells #[.string p.code, .int .i64 p.urg, .slice p.kA p.kinds.length p.kc] 35)
        have hsam := same31_any p q (w5.alloc (.cells #[.string p.code, .int .i64 p.urg, .slice p.kA p.kinds.length p.kc] 35)) ((hps.alloc (Nat.le_refl _) _).more (by simp)) ((HQ.out.below hb6w).more hb6w.size) hpw hsame
        have HSA := Lib.hid hsam
        have HB6 := Lib.hid hb6w
        have hne : ¬ w.heap.size = w5.heap.size := by omega
        clear hsam hb6w hb5w hb5 hps hpt hsame hpw hpv d0 d1 d2
        go_wp2_with fail
        refine HSA.out.mono ?_
        rintro e w6 ⟨rfl, hb6⟩
        have HB7 := Lib.hid (below_then HB6.out hb6)
        clear hb6
        go_wp2_with fail
        go_meet
        case rel => exact ⟨rfl, HB7.out⟩
      · exact absurd (bs_data _).symm (hno q HV.out)
  case rest =>
    obtain ⟨rfl, hbx⟩ := hcut
    have HBX := Lib.hid hbx
    clear hbx
    have hzx := HBX.out.size
    have d3 : s.size ≤ 1099511 := by omega
    clear d0 d1 d2 HB4
    go_wp2_with fail
    refine (parse31_any s (by omega) _ (HR.out.below HBX.out) (HN.out.keep HBX.out hroom)).mono ?_
    rintro e w5 (⟨p, rfl, hpv, hpt, hpw, hps, hb5⟩ | ⟨rfl, hno, hb5⟩)
    · have HBa := Lib.hid ((below_then HBX.out hb5).alloc (by have := hb5.size; omega) (.cells #[.string p.code, .int .i64 p.urg, .slice p.kA p.kinds.length p.kc] 35))
      have HPS := Lib.hid ((hps.alloc (Nat.le_refl _) (.cells #[.string p.code, .int .i64 p.urg, .slice p.kA p.kinds.length p.kc] 35)).more (show w5.heap.size ≤ (w5.alloc (.cells #[.string p.code, .int .i64 p.urg, .slice p.kA p.kinds.length p.kc] 35)).heap.size by simp))
      have HPT := Lib.hid hpt
      have HPV := Lib.hid hpv
      have HPW := Lib.hid hpw
      clear hb5 hps hpt hpv hpw
      go_wp2_with fail
      refine (parseR31_any s (by omega) _).mono ?_
      rintro e w6 (⟨r, rfl, hrv, hrt, hrw, hrs, hb6⟩ | ⟨_, hno, _⟩)
      · have hsame := text_inj HPV.out hrv (HPT.out.trans hrt.symm)
        have e0 : w6.cell? ⟨w5.heap.size, 0, none⟩ = some (.string p.code) := (hb6.cell (p := ⟨w5.heap.size, 0, none⟩) (by simp)).trans (by simp)
        have e1 : w6.cell? ⟨w5.heap.size, 1, none⟩ = some (.int .i64 p.urg) := (hb6.cell (p := ⟨w5.heap.size, 1, none⟩) (by simp)).trans (by simp)
        have e2 : w6.cell? ⟨w5.heap.size, 2, none⟩ = some (.slice p.kA p.kinds.length p.kc) := (hb6.cell (p := ⟨w5.heap.size, 2, none⟩) (by simp)).trans (by simp)
        have hz6 : w5.heap.size < w6.heap.size := by have := hb6.size; simp at this; omega
        have hbw := (below_then HBa.out hb6)
        have hps6 := (HPS.out.below hb6).more hb6.size
        have hsam := same31_any p r (w6.alloc (.cells #[.string r.code, .int .i64 r.urg, .slice r.kA r.kinds.length r.kc] 35)) ((hps6.alloc (Nat.le_refl _) _).more (by simp)) ((hrs.alloc (Nat.le_refl _) _).more (by simp)) HPW.out hsame
        have HSA := Lib.hid hsam
        have HB7 := Lib.hid (hbw.alloc hbw.size (.cells #[.string r.code, .int .i64 r.urg, .slice r.kA r.kinds.length r.kc] 35))
        have hne : ¬ w5.heap.size = w6.heap.size := by omega
        clear hsam hbw hps6 hb6 hrs hrt hrw hrv hsame
        go_wp2_with fail
        refine HSA.out.mono ?_
        rintro e w7 ⟨rfl, hb7⟩
        have HB8 := Lib.hid (below_then HB7.out hb7)
        clear hb7
        go_wp2_with fail
        go_ret
        exact ⟨rfl, HB8.out⟩
      · exact absurd HPT.out (hno p HPV.out)
    · have HBa := Lib.hid ((below_then HBX.out hb5).alloc (by have := hb5.size; omega) (.cells #[.string ⟨#[]⟩, .int .i64 0, .slice none 0 0] 35))
      have HNO := Lib.hid hno
      clear hb5 hno
      go_wp2_with fail
      refine (parseR31_any s (by omega) _).mono ?_
      rintro e w6 (⟨r, rfl, hrv, hrt, hrw, hrs, hb6⟩ | ⟨rfl, _, hb6⟩)
      · exact absurd hrt (HNO.out r hrv)
      · have e0 : w6.cell? ⟨w5.heap.size, 0, none⟩ = some (.string ⟨#[]⟩) := (hb6.cell (p := ⟨w5.heap.size, 0, none⟩) (by simp)).trans (by simp)
        have e1 : w6.cell? ⟨w5.heap.size, 1, none⟩ = some (.int .i64 0) := (hb6.cell (p := ⟨w5.heap.size, 1, none⟩) (by simp)).trans (by simp)
        have e2 : w6.cell? ⟨w5.heap.size, 2, none⟩ = some (.slice none 0 0) := (hb6.cell (p := ⟨w5.heap.size, 2, none⟩) (by simp)).trans (by simp)
        have hz6 : w5.heap.size < w6.heap.size := by have := hb6.size; simp at this; omega
        have hbw := (below_then HBa.out hb6)
        have hsam := same31_any ⟨⟨#[]⟩, 0, none, [], 0⟩ ⟨⟨#[]⟩, 0, none, [], 0⟩ (w6.alloc (.cells #[.string ⟨#[]⟩, .int .i64 0, .slice none 0 0] 35)) Sl.empty Sl.empty ⟨by simp, by decide, by decide, by simp, by simp, fun _ => rfl⟩ ⟨rfl, rfl, rfl⟩
        have HSA := Lib.hid hsam
        have HB7 := Lib.hid (hbw.alloc hbw.size (.cells #[.string ⟨#[]⟩, .int .i64 0, .slice none 0 0] 35))
        have hne : ¬ w5.heap.size = w6.heap.size := by omega
        clear hsam hbw hb6
        go_wp2_with fail
        refine HSA.out.mono ?_
        rintro e w7 ⟨rfl, hb7⟩
        have HB8 := Lib.hid (below_then HB7.out hb7)
        clear hb7
        go_wp2_with fail
        go_ret
        exact ⟨rfl, HB8.out⟩
end Go.Proofs.YtcpplebgocbnhaaDoor
