/-
  samaritanlaw35.DispatchcostDispatchable returns true for every input, and the arguments read afterwards as before.
  No condition beyond those of the given row.
-/
import Derived.Test.YtpomakmmjbimfaaRows
import Derived.Test.YtpomakmmjbimfaaNetB
import Derived.Test.YtpomakmmjbimfaaLift
namespace Go.Proofs.Ytpomakmmjbimfaa.l35Dispatchable
open Go.ChangeShapes Go.WideShapes Go.ChangeAt Go.RowKit Go.Maps
open Go.ChangeMaps (open_string shut_string)

theorem own : ownKnob Try.prog.godebug = none := by kernel_rfl
theorem laidOut : laidOutB Try.prog = true := by kernel_rfl

set_option maxRecDepth 100000 in
set_option maxHeartbeats 2000000 in
theorem walk (w : World) (A0 : Option Addr) (us : List UnitT) (c0 : Nat) (hs : UnitsAt w w.heap.size A0 us) (hwf : ∀ u ∈ us, UnitWf u) (_hc0 : us.length ≤ c0) (_hm0 : c0 ≤ 9223372036854775807) (_hn : A0 = none → c0 = 0) (urg : Int) (_wu : (Lit.int .i64 urg).wf = true) (rsv : Int) (_wr : (Lit.int .i64 rsv).wf = true) :
    Calls Try.prog 4 #[.slice A0 us.length c0, .int .i64 urg, .int .i64 rsv] w fun e w' => e = .returned (.bool true) ∧ Below w.heap.size w w' := by
  have HS := Lib.hid hs
  have HWF := Lib.hid hwf
  clear hs hwf
  go_enter Try.func4, Try.ntmps4
  go_wp2_with fail
  refine (wakes35_any _).mono ?_
  rintro e w1 ⟨rfl, hb⟩
  have hz1 := hb.size
  have HB := Lib.hid hb
  clear hb
  by_cases hl : 40 < us.length
  · have hd0 : decide ((40 : Int) < (us.length : Int)) = true := by simp; omega
    go_wp2_with fail
    go_ret
    exact ⟨rfl, HB.out⟩
  · have hd0 : decide ((40 : Int) < (us.length : Int)) = false := by simp; omega
    go_wp2_with fail
    ((with_reducible refine (dispatchable_any A0 c0 us urg rsv w1 ((HS.out.below HB.out).more hz1) HWF.out (by omega)).mono ?_))
    rintro e w2 ⟨v2, rfl, ho2, hb2⟩
    have hz2 := hb2.size
    have HB2 := Lib.hid (HB.out.trans (hb2.mono hz1))
    obtain ⟨A2, c2, rfl, hs2⟩ := ho2.sl
    clear hb2 ho2
    go_wp2_with fail
    ((with_reducible refine (spare_any A0 c0 us urg rsv w2 ((HS.out.below HB2.out).more HB2.out.size) (by omega)).mono ?_))
    rintro e w3 ⟨v3, rfl, ho3, hb3⟩
    have hz3 := hb3.size
    have HB3 := Lib.hid (HB2.out.trans (hb3.mono HB2.out.size))
    obtain ⟨A3, c3, rfl, hs3⟩ := ho3.sl
    have HS2 := Lib.hid (hs2.below hb3)
    have HS3 := Lib.hid hs3
    have hlen := spareR_len (effR urg rsv) us us.length
    have HMOST := Lib.hid (spareR_most (effR urg rsv) us us.length)
    have HFREE := Lib.hid (spareR_free (effR urg rsv) us us.length)
    obtain ⟨L, hL⟩ : ∃ L, L = spareR (effR urg rsv) us us.length := ⟨_, rfl⟩
    rw [← hL] at HS2 HS3 HMOST HFREE hlen ⊢
    have hdn : ((L.length : Int) != (L.length : Int)) = false := by simp
    have hdn' : (L.length != L.length) = false := by simp
    clear hb3 ho3 hs2 hs3 hL
    go_wp2_with fail
    ((with_reducible refine (dispatchable_any A0 c0 us 1 rsv w3 ((HS.out.below HB3.out).more HB3.out.size) HWF.out (by omega)).mono ?_))
    rintro e w4 ⟨v4, rfl, ho4, hb4⟩
    have HB4 := Lib.hid (HB3.out.trans (hb4.mono HB3.out.size))
    obtain ⟨A4, c4, rfl, _⟩ := ho4.sl
    have hsm : L.length ≤ (spareR (effR 1 rsv) us us.length).length := HMOST.out
    have HS2b := Lib.hid (HS2.out.below (hb4.mono hz3))
    have HS3b := Lib.hid (HS3.out.below hb4)
    obtain ⟨m, hm⟩ : ∃ m, m = (spareR (effR 1 rsv) us us.length).length := ⟨_, rfl⟩
    rw [← hm] at hsm ⊢
    have hdm : decide ((m : Int) < (L.length : Int)) = false := decide_eq_false (by omega)
    have hdm' : decide (m < L.length) = false := decide_eq_false (by omega)
    clear hb4 ho4 hm HMOST HS2 HS3
    go_wp2_with fail
    go_loopw [39] (fun iv wr => ∃ (k q : Nat), k ≤ L.length ∧ iv = .int .i64 k ∧ wr = w4.drewN q) (fun i _ => L.length - (intOf i).toNat)
    case atStart => exact ⟨0, 0, Nat.zero_le _, rfl, rfl⟩
    case round =>
      obtain ⟨k, q, hk, rfl, rfl⟩ := hrel
      by_cases hlt : k < L.length
      · obtain ⟨u, hu⟩ : ∃ u, L[k]? = some u := ⟨L[k], by simp⟩
        obtain ⟨b, o, rfl, hb, c0', c1, c2', c3', c4', c5, c6, c7, c8, c9⟩ := unit_at HS2b.out hu
        obtain ⟨b', o', rfl, hb', e0, e1, e2, e3, e4, e5, e6, e7, e8, e9⟩ := unit_at HS3b.out hu
        have hst : u.state = 1 := HFREE.out u (List.mem_of_getElem? hu)
        obtain ⟨id, kind, home, state, node, seq, heard, inc, epoch, acked⟩ := u
        simp only at c0' c1 c2' c3' c4' c5 c6 c7 c8 c9 e0 e1 e2 e3 e4 e5 e6 e7 e8 e9 hst
        subst hst
        clear hu
        go_wp2_with fail
        go_quiet (fail)
        go_wp2_with fail
        go_roundw
        case rel => exact ⟨k + 1, q + nq, by omega, by go_num, by first | rfl | rw [World.drewN_drewN]⟩
        case measure => simp [intOf]; omega
      · have hkk : k = L.length := by omega
        subst hkk
        go_wp2_with fail
        go_ret
        exact ⟨rfl, below_drewN2 _ HB4.out⟩

set_option maxRecDepth 100000 in
theorem lifted (os : Os) (started : os.Started) (H : Type) (enc : TypeId × Value → H) :
    ReturnsInHanded {} Try.checked os 4 .any (Rows.dispatchcostDispatchableSpec.pre6 enc Try.prog Try.f4 Rows.dispatchcostDispatchableRow.domain false) (Rows.dispatchcostDispatchableSpec.post enc Try.prog Try.f4 false true false false) := by
  refine returnsInHanded_of_change (C := Try.checked) own started (by kernel_rfl) Try.func4
    (ChangeSpec.witness6 (enc := enc) (C := Try.checked) false ⟨#[], #[.slice none 0 0, .int .i64 0, .int .i64 0], []⟩ 8 (by kernel_rfl) (by kernel_rfl) (by kernel_rfl) (by kernel_rfl)) ?_
  intro W base args ds gs before hval0 hW hcnd _
  have hval : ∀ (j : Nat) t v, Try.f4.params[j]? = some t → args[j]? = some v → Value.okWide Try.prog W .any base t v := hval0
  have hW' := hW
  obtain ⟨p, q, hA0, hV, rfl, hfz, hnd⟩ := hW
  have hA : DataW.TrodAll enc Try.prog W 0 (fun _ => true) true Try.f4.params.toList args.toList ds p := hA0
  rw [Try.params4] at hA hval
  obtain ⟨v0, vs0, d0, ds0, p0, q0, hargs, rfl, rfl, h0, r0⟩ := trodAll_cons hA
  obtain ⟨v1, vs1, d1, ds1, p1, q1, rfl, rfl, rfl, h1, r1⟩ := trodAll_cons r0
  obtain ⟨v2, vs2, d2, ds2, p2, q2, rfl, rfl, rfl, h2, r2⟩ := trodAll_cons r1
  obtain ⟨rfl, rfl, rfl⟩ := trodAll_nil r2
  obtain rfl : args = #[v0, v1, v2] := by cases args; simp_all
  obtain ⟨rfl, rfl⟩ := trodVars_none hV
  obtain ⟨A0, u0, c0, rfl, hs0, hwf0, hc0, hm0, hn0⟩ := open_units (hval 0 36 v0 rfl rfl) h0
  obtain ⟨a1, rfl, rfl, rfl, w1⟩ := open_int Try.underlying3 (hval 1 3 v1 rfl rfl) h1
  obtain ⟨a2, rfl, rfl, rfl, w2⟩ := open_int Try.underlying3 (hval 2 3 v2 rfl rfl) h2
  clear hA0 hval0
  refine (walk W A0 u0 c0 hs0 hwf0 hc0 hm0 hn0 a1 w1 a2 w2).mono fun e W' ⟨he, hb⟩ => ?_
  subst he
  exact ⟨_, rfl, law_post laidOut (by kernel_rfl) rfl Try.underlying4 rfl hW' rfl rfl rfl hb⟩

theorem over : Rows.dispatchcostDispatchableRow.holds Try.pinned (OpenSpec.ofChange Rows.dispatchcostDispatchableSpec) :=
  OpenClaim.holds_of_wide 4 Try.f4 rfl rfl rfl rfl rfl rfl rfl ⟨rfl, rfl, rfl, rfl, rfl⟩ rfl rfl rfl rfl rfl (by kernel_rfl) Try.func4 (by kernel_rfl)
    (of_decide_eq_true (by kernel_rfl)) (by unfold Func.isWrapper; first | (rw [if_pos (by decide +kernel)]; kernel_rfl) | (rw [if_neg (by decide +kernel)]; exact ⟨rfl, rfl⟩))
    (fun os started H enc _ => lifted os started H enc)

theorem proved : Rows.DispatchcostDispatchableSaid := over
#print axioms proved
end Go.Proofs.Ytpomakmmjbimfaa.l35Dispatchable
