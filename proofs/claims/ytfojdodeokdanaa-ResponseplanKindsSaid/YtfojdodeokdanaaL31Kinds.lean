/-
  samaritanlaw31.ResponseplanKinds returns true for every input, and the arguments read afterwards as before.
  No condition beyond those of the given row.
-/
import Derived.Test.YtfojdodeokdanaaRows
import Derived.Test.YtfojdodeokdanaaSat
import Derived.Test.YtfojdodeokdanaaSame
import Derived.Test.YtfojdodeokdanaaKinds
import Derived.Test.YtfojdodeokdanaaLift
namespace Go.Proofs.Ytfojdodeokdanaa.l31Kinds
open Go.ChangeShapes Go.WideShapes Go.ChangeAt Go.RowKit Go.Maps
open Go.ChangeMaps (open_string shut_string)

theorem own : ownKnob Try.prog.godebug = none := by kernel_rfl
theorem laidOut : laidOutB Try.prog = true := by kernel_rfl

set_option maxRecDepth 100000 in
theorem walk (w : World) (A0 : Option Addr) (ps : List Plan) (c0 : Nat) (hp : Plans w w.heap.size A0 ps) (hc0 : ps.length ≤ c0) (hm0 : c0 ≤ 9223372036854775807) (code : ByteArray) (hcl : code.size ≤ maxLen) (urg : Int) (_hu : (Lit.int .i64 urg).wf = true) :
    Calls Try.prog 7 #[.slice A0 ps.length c0, .string code, .int .i64 urg] w fun e w' => e = .returned (.bool true) ∧ Below w.heap.size w w' := by
  unfold maxLen at hcl
  go_enter Try.func7, Try.ntmps7
  go_wp2_with fail
  refine (wakes_any _).mono ?_
  rintro e w1 ⟨rfl, hb⟩
  have hz1 := hb.size
  have HB := Lib.hid hb
  clear hb
  go_wp2_with fail
  refine (small_any A0 c0 ps w1 w.heap.size (hp.below HB.out) (by omega)).mono ?_
  rintro e w' ⟨rfl, rfl⟩
  cases hsm : smallP ps
  · clear hsm
    go_wp2_with fail
    go_ret
    exact ⟨rfl, HB.out⟩
  · have HSM := Lib.hid hsm
    clear hsm
    by_cases hcs : 100 < code.size
    · have hd : decide ((100 : Int) < (code.size : Int)) = true := by simp; omega
      go_wp2_with fail
      go_ret
      exact ⟨rfl, HB.out⟩
    · have hd : decide ((100 : Int) < (code.size : Int)) = false := by simp; omega
      go_wp2_with fail
      refine (kinds_any A0 c0 ps code urg w1 ((hp.below HB.out).more hz1) (by omega)).mono ?_
      rintro e w2 ⟨A2, c2, rfl, hs2, hb2⟩
      have hz2 := hb2.size
      have HB2 := Lib.hid (HB.out.trans (hb2.mono hz1))
      clear hb2
      go_wp2_with fail
      refine (required_any A0 c0 ps code urg w2 ((hp.below HB2.out).more (Nat.le_trans hz1 hz2)) (by omega) HSM.out).mono ?_
      rintro e w3 ⟨v3, rfl, ho3, hb3⟩
      have hkl : (kindsL ps code urg).length ≤ 20 := kindsL_len HSM.out
      obtain ⟨A3, c3, rfl, hs3⟩ := ho3.sl
      have hz3 := hb3.size
      have hs2' := hs2.below hb3
      have HBX := Lib.hid hb3
      clear hb3
      go_wp2_with fail
      refine (same_any A3 A2 c3 c2 (kindsL ps code urg) (kindsL ps code urg) w3 _ _ hs3 hs2' (by omega)).mono ?_
      rintro e w4 ⟨rfl, n, rfl⟩
      rw [show decide (kindsL ps code urg = kindsL ps code urg) = true from by simp]
      generalize hK : kindsL ps code urg = K at *
      have HK := Lib.hid hK
      clear hK
      go_wp2_with fail
      go_loopw [34] (fun i wr => ∃ k : Nat, k ≤ K.length ∧ i = .int .i64 k ∧ ∃ zs : List Int, zs.length = K.length ∧ OwnI wr w2.heap.size 3 (.slice A3 K.length c3) zs ∧ Below w2.heap.size w2 wr) (fun i _ => K.length - (intOf i).toNat)
      case atStart => exact ⟨0, Nat.zero_le _, rfl, K, rfl, ho3.drewN n, below_drewN HBX.out n⟩
      case round =>
        clear ho3 hs3 hs2'
        obtain ⟨k, hk, rfl, zs, hzl, ho, hnx⟩ := hrel
        have HZL := Lib.hid hzl
        clear hzl
        by_cases hlt : k < K.length
        · obtain ⟨z, hz⟩ : ∃ z, zs[k]? = some z := ⟨zs[k]'(by rw [HZL.out]; exact hlt), by simp⟩
          obtain ⟨g, c', hv, hg1, hg2, hcu, hfu⟩ := ho.form hz
          injection hv with hA hB hC
          subst hA
          clear hB hC hz
          go_wp2_with fail
          go_roundw
          case rel =>
            refine ⟨k + 1, by omega, by go_num, zs.set k 9, by simp [HZL.out], ho.stored k 9, hnx.setCell (p := ⟨g, k, none⟩) hg1 _⟩
          case measure => simp [intOf]; omega
        · have hkk : k = K.length := by omega
          subst hkk
          have hzr := hnx.size
          have HBR := Lib.hid (HB2.out.trans (hnx.mono (Nat.le_trans hz1 hz2)))
          have hs2r := hs2.below hnx
          have hzw : w.heap.size ≤ wr.heap.size := Nat.le_trans hz1 (Nat.le_trans hz2 hzr)
          clear hnx ho
          go_wp2_with fail
          refine (required_any A0 c0 ps code urg wr ((hp.below HBR.out).more hzw) (by omega) HSM.out).mono ?_
          rintro e w5 ⟨v5, rfl, ho5, hb5⟩
          rw [HK.out] at ho5
          obtain ⟨A5, c5, rfl, hs5⟩ := ho5.sl
          have hs2s := hs2r.below (hb5.mono hzr)
          have HB5 := Lib.hid (HBR.out.trans (hb5.mono hzw))
          clear hb5 ho5
          go_wp2_with fail
          refine (same_any A5 A2 c5 c2 K K w5 _ _ hs5 hs2s (by omega)).mono ?_
          rintro e w6 ⟨rfl, m, rfl⟩
          rw [show decide (K = K) = true from by simp]
          go_wp2_with fail
          go_ret
          exact ⟨rfl, below_drewN HB5.out m⟩

set_option maxRecDepth 100000 in
theorem lifted (os : Os) (started : os.Started) (H : Type) (enc : TypeId × Value → H) :
    ReturnsInHanded {} Try.checked os 7 .any (Rows.responseplanKindsSpec.pre6 enc Try.prog Try.f7 Rows.responseplanKindsRow.domain false) (Rows.responseplanKindsSpec.post enc Try.prog Try.f7 false true false false) := by
  refine returnsInHanded_of_change (C := Try.checked) own started (by kernel_rfl) Try.func7
    (ChangeSpec.witness6 (enc := enc) (C := Try.checked) false ⟨#[], #[.slice none 0 0, .string ByteArray.empty, .int .i64 0], []⟩ 8 (by kernel_rfl) (by kernel_rfl) (by kernel_rfl) (by kernel_rfl)) ?_
  intro W base args ds gs before hval0 hW hcnd _
  have hval : ∀ (j : Nat) t v, Try.f7.params[j]? = some t → args[j]? = some v → Value.okWide Try.prog W .any base t v := hval0
  have hW' := hW
  obtain ⟨p, q, hA0, hV, rfl, hfz, hnd⟩ := hW
  have hA : DataW.TrodAll enc Try.prog W 0 (fun _ => true) true Try.f7.params.toList args.toList ds p := hA0
  rw [Try.params7] at hA hval
  obtain ⟨v0, vs0, d0, ds0, p0, q0, hargs, rfl, rfl, h0, r0⟩ := trodAll_cons hA
  obtain ⟨v1, vs1, d1, ds1, p1, q1, rfl, rfl, rfl, h1, r1⟩ := trodAll_cons r0
  obtain ⟨v2, vs2, d2, ds2, p2, q2, rfl, rfl, rfl, h2, r2⟩ := trodAll_cons r1
  obtain ⟨rfl, rfl, rfl⟩ := trodAll_nil r2
  obtain rfl : args = #[v0, v1, v2] := by cases args; simp_all
  obtain ⟨rfl, rfl⟩ := trodVars_none hV
  obtain ⟨A0, z0, c0, rfl, hs0, hc0, hm0⟩ := open_plans (hval 0 29 v0 rfl rfl) h0
  obtain ⟨s1, rfl, rfl, rfl, w1⟩ := open_string Try.underlying9 (hval 1 9 v1 rfl rfl) h1
  obtain ⟨a2, rfl, rfl, rfl, w2⟩ := open_int Try.underlying3 (hval 2 3 v2 rfl rfl) h2
  clear hA0 hval0
  refine (walk W A0 z0 c0 hs0 hc0 hm0 s1 w1 a2 w2).mono fun e W' ⟨he, hb⟩ => ?_
  subst he
  exact ⟨_, rfl, law_post laidOut (by kernel_rfl) rfl Try.underlying4 rfl hW' rfl rfl rfl hb⟩

theorem over : Rows.responseplanKindsRow.holds Try.pinned (OpenSpec.ofChange Rows.responseplanKindsSpec) :=
  OpenClaim.holds_of_wide 7 Try.f7 rfl rfl rfl rfl rfl rfl rfl ⟨rfl, rfl, rfl, rfl, rfl⟩ rfl rfl rfl rfl rfl (by kernel_rfl) Try.func7 (by kernel_rfl)
    (of_decide_eq_true (by kernel_rfl)) (by unfold Func.isWrapper; first | (rw [if_pos (by decide +kernel)]; kernel_rfl) | (rw [if_neg (by decide +kernel)]; exact ⟨rfl, rfl⟩))
    (fun os started H enc _ => lifted os started H enc)

theorem proved : Rows.ResponseplanKindsSaid := over
#print axioms proved
end Go.Proofs.Ytfojdodeokdanaa.l31Kinds
