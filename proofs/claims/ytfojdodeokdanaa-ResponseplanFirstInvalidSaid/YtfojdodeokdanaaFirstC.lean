/-
  responseplan.FirstInvalid returns the index of the first plan that is invalid or repeats a name, or -1, for every slice of plans.
-/
import Derived.Test.YtfojdodeokdanaaFirstB
namespace Go.Proofs.Ytfojdodeokdanaa
open Go.RowKit Go.Maps Go.Joins

theorem laidOutF : laidOutB Try.prog = true := by kernel_rfl
theorem nameRow : (43 : TypeId) < Try.prog.types.size := of_decide_eq_true (by kernel_rfl)
theorem nameWide : (match Try.prog.underlying 43 with | some (.array _ _) | some (.struct _) => true | _ => false) = true := by kernel_rfl
theorem nameDeep : Try.prog.keyTypeAt (Try.prog.types.size + 1) 43 = true := by kernel_rfl
theorem nameKeyed : Keyed Try.prog 43 := Keyed.of_law (deep_law_laid laidOutF (m := 2) (by omega) nameRow (by kernel_rfl) nameWide)
theorem nameCells : Try.prog.cellsOf 43 = 2 := by kernel_rfl
theorem bool_zero (w : World) : (zeroValue 4).run Try.prog w = .ok (.bool false) w := by kernel_rfl
def nameKey (p : Plan) : Value := .agg #[.string p.code, .int .i64 p.urg]

theorem nameOf (p : Plan) (hw : PlanWf p) : ∃ kl, keyOf Try.prog 43 (nameKey p) = some kl := by
  have hs : p.code.size ≤ maxLen := by unfold maxLen; exact hw.code
  have h1 := shut_agg2 (H := Unit) (enc := fun _ => ()) (P := Try.prog) (w := default) (base := 0) (spare := fun _ => false) (held := true) (y0 := (.lit (.string p.code.data.toList), [])) (y1 := (.lit (.int .i64 p.urg), [])) (v0 := .string p.code) (v1 := .int .i64 p.urg)
    Try.underlying43 (by kernel_rfl) nameCells ⟨1, by simp [DataW.trod, Try.underlying9, hs]⟩ ⟨1, by simp [DataW.trod, Try.underlying3, hw.urg]⟩
  exact ⟨_, (keyOf_asKey nameDeep nameWide (by simp [Value.formed, Try.underlying43, nameCells]) h1).1⟩

theorem nameKey_eq {p q : Plan} : nameKey q = nameKey p ↔ sameN q p = true := by
  unfold nameKey sameN
  simp only [Bool.and_eq_true, beq_iff_eq]
  constructor
  · intro h
    simp at h
    rw [h.1]
    exact ⟨rfl, h.2⟩
  · intro ⟨h1, h2⟩
    rw [ByteArray.toList_eq, ByteArray.toList_eq] at h1
    have : q.code = p.code := by
      cases hq : q.code
      cases hp : p.code
      rw [hq, hp] at h1
      simpa using Array.toList_inj.1 h1
    rw [this, h2]

/-- the keys of the first k plans. -/
def SeenTo (ps : List Plan) (k : Nat) (S : Value → Bool) : Prop := ∀ p : Plan, S (nameKey p) = true ↔ ∃ (j : Nat) (q : Plan), j < k ∧ ps[j]? = some q ∧ sameN q p = true

theorem SeenTo.start (ps : List Plan) : SeenTo ps 0 (fun _ => false) := fun _ => ⟨(fun h => by cases h), (fun ⟨_, _, h, _⟩ => absurd h (by omega))⟩
theorem SeenTo.step {ps : List Plan} {k : Nat} {S : Value → Bool} {p : Plan} (h : SeenTo ps k S) (hp : ps[k]? = some p) : SeenTo ps (k + 1) (updB S (nameKey p) true) := by
  intro x
  unfold updB
  split
  · rename_i e
    refine ⟨fun _ => ⟨k, p, by omega, hp, nameKey_eq.1 e.symm⟩, fun _ => rfl⟩
  · rename_i e
    rw [h x]
    constructor
    · rintro ⟨j, q, hj, hq, hs⟩
      exact ⟨j, q, by omega, hq, hs⟩
    · rintro ⟨j, q, hj, hq, hs⟩
      by_cases ej : j = k
      · subst ej
        rw [hp] at hq
        injection hq with hq
        subst hq
        exact absurd (nameKey_eq.2 hs).symm e
      · exact ⟨j, q, by omega, hq, hs⟩

set_option maxRecDepth 100000 in
set_option maxHeartbeats 1000000 in
theorem first_any (A : Option Addr) (c : Nat) (ps : List Plan) (w : World) (hp : Plans w w.heap.size A ps) (hl : ps.length ≤ 40) :
    Calls Try.prog 19 #[.slice A ps.length c] w (RetBad ps w) := by
  have hmm := @run_makeMap Try.prog
  go_enter Try.func19, Try.ntmps19
  go_wp2_with fail
  go_loopw [10] (fun i wr => ∃ k : Nat, k ≤ ps.length ∧ i = .int .i64 k ∧ Goods ps k ∧ (∃ S, MapB Try.prog 43 4 wr w.heap.size k S ∧ SeenTo ps k S) ∧ Below w.heap.size w wr) (fun i _ => ps.length - (intOf i).toNat)
  case atStart => exact ⟨0, Nat.zero_le _, rfl, fun j q h => absurd h (by omega), ⟨_, MapB.made, SeenTo.start ps⟩, (Below.refl _ _).alloc (Nat.le_refl _) _⟩
  case round =>
    obtain ⟨k, hk, rfl, hgs, ⟨S, hmap, hseen⟩, hnx⟩ := hrel
    by_cases hlt : k < ps.length
    · obtain ⟨p, hpk⟩ : ∃ p, ps[k]? = some p := ⟨ps[k], by simp⟩
      obtain ⟨⟨b, o, rfl, hb, c0, c1, c2, hsl⟩, hwf⟩ := (hp.below hnx) k p hpk
      have HPK := Lib.hid hpk
      have hz := hnx.size
      have HKEY := Lib.hid (nameOf p hwf)
      have HWF := Lib.hid hwf
      clear hpk hwf
      generalize hW : (wr.alloc (Obj.cells #[Value.string p.code, Value.int IntKind.i64 p.urg, Value.slice p.kA p.kinds.length p.kc] 38)).alloc (Obj.cells #[Value.string p.code, Value.int IntKind.i64 p.urg] 43) = W
      have hbW : Below wr.heap.size wr W := by rw [← hW]; exact ((Below.refl _ _).alloc (Nat.le_refl _) _).alloc (by simp) _
      have hk0 : W.cell? ⟨wr.heap.size + 1, 0, none⟩ = some (.string p.code) := by rw [← hW]; simp
      have hk1 : W.cell? ⟨wr.heap.size + 1, 1, none⟩ = some (.int .i64 p.urg) := by rw [← hW]; simp
      have hWs : wr.heap.size + 1 < W.heap.size := by rw [← hW]; simp
      have HW := Lib.hid hW
      clear hW
      have hmW := hmap.below hbW
      have HBW := Lib.hid (hnx.trans (hbW.mono hz))
      have hslW := hsl.below (hbW.mono hz)
      go_wp2_with fail
      rw [HW.out]
      refine (valid_any p W (hslW.more (by omega)) HWF.out).mono ?_
      rintro e w1 ⟨rfl, hb1⟩
      have g0 : w1.cell? ⟨wr.heap.size + 1, 0, none⟩ = some (.string p.code) := (hb1.cell (p := ⟨wr.heap.size + 1, 0, none⟩) hWs).trans hk0
      have g1 : w1.cell? ⟨wr.heap.size + 1, 1, none⟩ = some (.int .i64 p.urg) := (hb1.cell (p := ⟨wr.heap.size + 1, 1, none⟩) hWs).trans hk1
      have hm1 := hmW.below hb1
      have hz1 := hb1.size
      have HB1 := Lib.hid (HBW.out.trans (hb1.mono (by omega)))
      clear hb1 hk0 hk1 hbW hmW hmap hslW hsl c0 c1 c2 hnx HW
      cases hv : validB p
      · have HN : Hid (¬ Good ps k p) := fun q => by rw [q.1] at hv; cases hv
        clear hv
        go_wp2_with fail
        go_ret
        exact ⟨k, rfl, .inr ⟨k, p, rfl, HPK.out, HN.out, hgs⟩, HB1.out⟩
      · have HV := Lib.hid hv
        clear hv
        cases hS : S (nameKey p)
        · have HG : Hid (Goods ps (k + 1)) := hgs.succ HPK.out ⟨HV.out, fun j q hj hq => by
            cases hsn : sameN q p with
            | false => rfl
            | true =>
              have := (hseen p).2 ⟨j, q, hj, hq, hsn⟩
              rw [hS] at this
              cases this⟩
          have HS := Lib.hid hS
          clear hS
          go_wp2_with (first
            | (at_lookup; refine wpList_look_bool _ rfl _ _ 41 rfl 43 4 nameKeyed Try.underlying41 Try.underlying4 (bool_zero _) w.heap.size k S rfl hm1 (nameKey p) rfl HKEY.out ?_; rw [HS.out]; intro u hu; subst hu)
            | (at_mapUpdate; refine wpList_put_bool _ rfl _ _ _ 41 rfl 43 4 nameKeyed Try.underlying41 Try.underlying4 w.heap.size k S rfl hm1 (by omega) (nameKey p) true rfl rfl HKEY.out ?_; intro w2 hm2 hg2))
          go_roundw
          case rel => exact ⟨k + 1, by omega, by go_num, HG.out, ⟨_, hm2, hseen.step HPK.out⟩, HB1.out.grown hg2 HB1.out.size (fun j hj => by cases hj; exact Nat.le_refl _)⟩
          case measure => simp [intOf]; omega
        · have HN : Hid (¬ Good ps k p) := fun q => by
            obtain ⟨j, x, hj, hx, hsn⟩ := (hseen p).1 hS
            rw [q.2 j x hj hx] at hsn
            cases hsn
          have HS := Lib.hid hS
          clear hS
          go_wp2_with (at_lookup; refine wpList_look_bool _ rfl _ _ 41 rfl 43 4 nameKeyed Try.underlying41 Try.underlying4 (bool_zero _) w.heap.size k S rfl hm1 (nameKey p) rfl HKEY.out ?_; rw [HS.out]; intro u hu; subst hu)
          go_ret
          exact ⟨k, rfl, .inr ⟨k, p, rfl, HPK.out, HN.out, hgs⟩, HB1.out⟩
    · have hkk : k = ps.length := by omega
      subst hkk
      go_wp2_with fail
      go_ret
      exact ⟨-1, rfl, .inl ⟨rfl, hgs⟩, hnx⟩
end Go.Proofs.Ytfojdodeokdanaa
