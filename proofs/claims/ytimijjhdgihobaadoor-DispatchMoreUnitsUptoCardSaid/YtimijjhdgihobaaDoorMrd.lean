/-
  samaritanlaw38.net.
  samaritanlaw38.send.
-/
import Derived.Test.YtimijjhdgihobaaDoorMra
import Derived.Test.YtimijjhdgihobaaDoorMrc
import Derived.Test.YtimijjhdgihobaaDoorMqr
import Derived.Test.YtimijjhdgihobaaDoorMqj
namespace Go.Proofs.YtimijjhdgihobaaDoor
section
open Go.RowKit Go.Maps

def cellsEd (e : EdgeT) : List Value := [.int .i64 e.frm, .int .i64 e.dst, .int .i64 e.tm]
theorem cellsEd_len (e : EdgeT) : (cellsEd e).length = 3 := rfl
theorem cellsEd_one (e : EdgeT) : ∀ v ∈ cellsEd e, v.oneCell' = true := by
  intro v hv
  simp only [cellsEd, List.mem_cons, List.not_mem_nil, or_false] at hv
  rcases hv with rfl | rfl | rfl <;> rfl
def RetNet38 (w : World) (s : StT) (e : Ending) (w' : World) : Prop :=
  (∃ (n p : Nat), s.z = n ∧ FineP s ∧ e = .returned (.pointer (some ⟨p, 0, none⟩)) ∧ GraphAt w' w'.heap.size p n s.E ∧ w.heap.size ≤ p ∧ Below w.heap.size w w') ∨ (e = .returned (.pointer none) ∧ Below w.heap.size w w')
set_option maxRecDepth 100000 in
set_option maxHeartbeats 8000000 in
theorem net38_any (s : StT) (w : World) (hin : StIn w w.heap.size s) (hwf : StWf s) :
    Calls Tryd.prog 7 #[.agg #[.int .i64 s.z, .slice s.eA s.E.length s.ec, .slice s.tA s.ts.length s.tc, .slice s.iA s.xs.length s.ic, .slice s.uA s.us.length s.uc, .slice s.pA s.ps.length s.pc, .int .i64 s.rsv]] w (RetNet38 w s) := by
  obtain ⟨W, hW⟩ : ∃ W, W = w.alloc (stObj s) := ⟨_, rfl⟩
  have hbel : Below w.heap.size w W := by rw [hW]; exact (Below.refl _ _).alloc (Nat.le_refl _) _
  have hz : w.heap.size < W.heap.size := by rw [hW]; simp
  have hbx : BoxS w.heap.size s W := by rw [hW]; exact box_new w s
  have HB := Lib.hid hbel
  have HIN := Lib.hid (hin.next hbel)
  have HBX := Lib.hid hbx
  have HWF := Lib.hid hwf
  obtain ⟨c0, c1, c2, c3, c4, c5, c6⟩ := hbx
  have HR := Lib.hid (fine_any s W HIN.out hwf)
  have hW2 : W = w.alloc (.cells #[.int .i64 s.z, .slice s.eA s.E.length s.ec, .slice s.tA s.ts.length s.tc, .slice s.iA s.xs.length s.ic, .slice s.uA s.us.length s.uc, .slice s.pA s.ps.length s.pc, .int .i64 s.rsv] 30) := hW
  clear hbel hin hwf hW
  go_enter Tryd.func7, Tryd.ntmps7
  go_upto_region 1 with fail
  rw [← hW2]
  clear hW2
  go_wp2_with fail
  ((with_reducible refine HR.out.mono ?_))
  rintro e w1 ⟨b, rfl, hf, hb1⟩
  have HF := Lib.hid hf
  have HB1 := Lib.hid (HB.out.trans (hb1.mono HB.out.size))
  have hbx1 := HBX.out.below hz hb1
  have HIN1 := Lib.hid (HIN.out.next hb1)
  have hz1 : w.heap.size < w1.heap.size := Nat.lt_of_lt_of_le hz hb1.size
  clear c0 c1 c2 c3 c4 c5 c6 hf hb1 HR HBX
  cases b
  · clear hbx1
    go_wp2_with fail
    go_ret
    exact .inr ⟨rfl, HB1.out⟩
  · have hfp := HF.out rfl
    have hrp := hfp.right
    obtain ⟨n, hn⟩ : ∃ n : Nat, s.z = n := ⟨s.z.toNat, by have := hrp.1; omega⟩
    have hn1 : 1 ≤ n := by have := hrp.1; omega
    have hn2 : n ≤ 12 := by have := hrp.2.1; omega
    have HNN := Lib.hid hn
    have HFP := Lib.hid hfp
    have c0 := hbx1.c0
    rw [hn] at c0
    have c1 := hbx1.c1
    have hEl : s.E.length ≤ 40 := hrp.2.2.1
    have HOK : Hid (∀ e ∈ s.E, validE n e) := Lib.hid (fun e he => by
      obtain ⟨a1, a2, a3, a4, a5, a6⟩ := hrp.2.2.2 e he
      rw [hn] at a2 a4
      exact ⟨a1, a2, a3, a4, by rcases a6 with a6 | a6 <;> omega⟩)
    have hn0 : s.eA = none → s.ec = 0 := HWF.out.en
    have HN0 := Lib.hid hn0
    have HST := Lib.hid (And.intro c0 c1)
    clear hbx1 hfp hrp hn hn0
    go_upto_region 3 with fail
    have HK : Hid (∀ Y, Below w1.heap.size w1 Y → Y.cell? ⟨w.heap.size, 0, none⟩ = some (.int .i64 (n : Int)) ∧ Y.cell? ⟨w.heap.size, 1, none⟩ = some (.slice s.eA s.E.length s.ec) ∧ Below w1.heap.size w1 Y) := Lib.hid (fun Y hY => ⟨(hY.cell (p := ⟨w.heap.size, 0, none⟩) hz1).trans HST.out.1, (hY.cell (p := ⟨w.heap.size, 1, none⟩) hz1).trans HST.out.2, hY⟩)
    refine wp_region_held_drew (S := (fun Y => Y.cell? ⟨w.heap.size, 0, none⟩ = some (.int .i64 (n : Int)) ∧ Y.cell? ⟨w.heap.size, 1, none⟩ = some (.slice s.eA s.E.length s.ec) ∧ Below w1.heap.size w1 Y)) (by kernel_rfl) (HK.out _ (Below.refl _ _).drew) (fun hHeld => ?_)
    obtain ⟨X, hX⟩ : ∃ X, X = w1.drew := ⟨_, rfl⟩
    rw [← hX] at hHeld ⊢
    have hXb : Below w1.heap.size w1 X := hHeld.2.2
    clear hX
    refine wpAnyH_take (i := 0) (v := .pointer (some ⟨w.heap.size, 0, none⟩)) rfl (by kernel_rfl) (by kernel_rfl) (by kernel_rfl) (fun _ _ _ h => h) (Or.inl ⟨by rfl, ?_⟩) (by assumption) ?_
    · intro w hSw
      obtain ⟨s0, s1, _⟩ := hSw
      go_simp
    show wpAnyH _ _ _ _ _ _ _ (Act.put _ (some 9) _) _
    simp only [Act.put, List.setIfInBounds_toArray, List.set_cons_zero, List.set_cons_succ]
    refine wpAnyH_take (i := 1) (v := .pointer (some ⟨w.heap.size, 0, none⟩)) rfl (by kernel_rfl) (by kernel_rfl) (by kernel_rfl) (fun _ _ _ h => h) (Or.inl ⟨by rfl, ?_⟩) (by assumption) ?_
    · intro w hSw
      obtain ⟨s0, s1, _⟩ := hSw
      go_simp
    show wpAnyH _ _ _ _ _ _ _ (Act.put _ (some 10) _) _
    simp only [Act.put, List.setIfInBounds_toArray, List.set_cons_zero, List.set_cons_succ]
    refine wpAnyH_take (i := 2) (v := .int .i64 (n : Int)) rfl (by kernel_rfl) (by kernel_rfl) (by kernel_rfl) (fun _ _ _ h => h) (Or.inl ⟨by rfl, ?_⟩) (by assumption) ?_
    · intro w hSw
      obtain ⟨s0, s1, _⟩ := hSw
      go_simp
    show wpAnyH _ _ _ _ _ _ _ (Act.put _ (some 11) _) _
    simp only [Act.put, List.setIfInBounds_toArray, List.set_cons_zero, List.set_cons_succ]
    refine wpAnyH_take (i := 4) (v := .pointer (some ⟨w.heap.size, 0, none⟩)) rfl (by kernel_rfl) (by kernel_rfl) (by kernel_rfl) (fun _ _ _ h => h) (Or.inl ⟨by rfl, ?_⟩) (by assumption) ?_
    · intro w hSw
      obtain ⟨s0, s1, _⟩ := hSw
      go_simp
    show wpAnyH _ _ _ _ _ _ _ (Act.put _ (some 13) _) _
    simp only [Act.put, List.setIfInBounds_toArray, List.set_cons_zero, List.set_cons_succ]
    refine wpAnyH_take (i := 5) (v := .pointer (some ⟨w.heap.size, 1, none⟩)) rfl (by kernel_rfl) (by kernel_rfl) (by kernel_rfl) (fun _ _ _ h => h) (Or.inl ⟨by rfl, ?_⟩) (by assumption) ?_
    · intro w hSw
      obtain ⟨s0, s1, _⟩ := hSw
      go_simp
    show wpAnyH _ _ _ _ _ _ _ (Act.put _ (some 14) _) _
    simp only [Act.put, List.setIfInBounds_toArray, List.set_cons_zero, List.set_cons_succ]
    refine wpAnyH_take (i := 6) (v := .slice s.eA s.E.length s.ec) rfl (by kernel_rfl) (by kernel_rfl) (by kernel_rfl) (fun _ _ _ h => h) (Or.inl ⟨by rfl, ?_⟩) (by assumption) ?_
    · intro w hSw
      obtain ⟨s0, s1, _⟩ := hSw
      go_simp
    show wpAnyH _ _ _ _ _ _ _ (Act.put _ (some 15) _) _
    simp only [Act.put, List.setIfInBounds_toArray, List.set_cons_zero, List.set_cons_succ]
    refine wpAnyH_ready (rs := [3]) (by kernel_rfl) (by simp) ?_
    refine AllReadyH.cons rfl (fun K hK => ?_) AllReadyH.nil
    go_simp
    refine hK.out _ _ (HK.out _ (hXb.alloc hXb.size (.cells #[] 55))) (fun hHeld => ?_)
    clear hK K
    have hE0 : OwnR cellsEd 3 (X.alloc (.cells #[] 55)) w1.heap.size 55 (.slice (some ⟨X.heap.size, 0, none⟩) 0 0) [] := OwnR.lit X cellsEd_len w1.heap.size 55 [] rfl hXb.size (by simp) #[] rfl
    have hbA : Below w1.heap.size w1 (X.alloc (.cells #[] 55)) := hXb.alloc hXb.size _
    refine wpAnyH_ready (rs := [7]) (by kernel_rfl) (by simp) ?_
    refine AllReadyH.cons rfl (fun K hK => ?_) AllReadyH.nil
    refine step_append_recs _ (by rfl) cellsEd_len (.tmp 12) (.tmp 15) 22 (by rfl) 55 Tryd.underlying22 edge_info rfl (by omega) (by omega) w1.heap.size _ [] (by rfl) hE0 w1.heap.size _ _ _ s.E (by rfl) (by rfl) HN0.out (HIN1.out.e.below hbA) (fun y _ => cellsEd_one y) (by simp; omega) hbA.size ?_
    intro v5 w5 hown5 hg5
    rw [List.nil_append] at hown5
    have HB5 := Lib.hid (hbA.grown hg5 hbA.size (fun j hj => OwnR.ge_base hE0 j hj))
    obtain ⟨A5, c5, rfl, hs5⟩ := hown5.sl
    refine hK.out _ _ (HK.out _ HB5.out) (fun hHeld => ?_)
    clear hK K
    have hnil5 : A5 = none → c5 = 0 := hown5.caps.2.2.2
    have HNW := Lib.hid (new_any n A5 c5 s.E w5 hn1 (by omega) (by omega) hs5 hnil5 HOK.out)
    refine wpAnyH_ready (rs := [8]) (by kernel_rfl) (by simp) ?_
    refine AllReadyH.cons rfl (fun K hK => ?_) AllReadyH.nil
    go_simp
    ((with_reducible refine HNW.out.mono ?_))
    rintro e w6 ⟨p, rfl, hg, hp, hb6⟩
    have HG := Lib.hid hg
    have hb16 : Below w1.heap.size w1 w6 := HB5.out.trans (hb6.mono HB5.out.size)
    have hp6 : w.heap.size ≤ p := by have := HB5.out.size; omega
    go_simp
    refine hK.out _ _ (HK.out _ hb16) (fun hHeld => ?_)
    clear hK K
    have HB6 := Lib.hid hb16
    clear hg hp hb6 hb16
    refine wpAnyH_take (i := 9) (v := .tuple #[.pointer (some ⟨p, 0, none⟩), .int .i64 0]) rfl (by kernel_rfl) (by kernel_rfl) (by kernel_rfl) (fun _ _ _ h => h) (Or.inl ⟨by rfl, ?_⟩) (by assumption) ?_
    · intro w hSw
      obtain ⟨s0, s1, _⟩ := hSw
      go_simp
    show wpAnyH _ _ _ _ _ _ _ (Act.put _ (some 8) _) _
    simp only [Act.put, List.setIfInBounds_toArray, List.set_cons_zero, List.set_cons_succ]
    refine wpAnyH_take (i := 10) (v := .pointer (some ⟨p, 0, none⟩)) rfl (by kernel_rfl) (by kernel_rfl) (by kernel_rfl) (fun _ _ _ h => h) (Or.inl ⟨by rfl, ?_⟩) (by assumption) ?_
    · intro w hSw
      obtain ⟨s0, s1, _⟩ := hSw
      go_simp
    show wpAnyH _ _ _ _ _ _ _ (Act.put _ (some 18) _) _
    simp only [Act.put, List.setIfInBounds_toArray, List.set_cons_zero, List.set_cons_succ]
    refine wpAnyH_take (i := 11) (v := .int .i64 0) rfl (by kernel_rfl) (by kernel_rfl) (by kernel_rfl) (fun _ _ _ h => h) (Or.inl ⟨by rfl, ?_⟩) (by assumption) ?_
    · intro w hSw
      obtain ⟨s0, s1, _⟩ := hSw
      go_simp
    show wpAnyH _ _ _ _ _ _ _ (Act.put _ (some 19) _) _
    simp only [Act.put, List.setIfInBounds_toArray, List.set_cons_zero, List.set_cons_succ]
    refine wpAnyH_take (i := 12) (v := .pointer (some ⟨p, 0, none⟩)) rfl (by kernel_rfl) (by kernel_rfl) (by kernel_rfl) (fun _ _ _ h => h) (Or.inl ⟨by rfl, ?_⟩) (by assumption) ?_
    · intro w hSw
      obtain ⟨s0, s1, _⟩ := hSw
      go_simp
    show wpAnyH _ _ _ _ _ _ _ (Act.put _ (some 3) _) _
    simp only [Act.put, List.setIfInBounds_toArray, List.set_cons_zero, List.set_cons_succ]
    refine wpAnyH_take (i := 13) (v := .int .i64 0) rfl (by kernel_rfl) (by kernel_rfl) (by kernel_rfl) (fun _ _ _ h => h) (Or.inl ⟨by rfl, ?_⟩) (by assumption) ?_
    · intro w hSw
      obtain ⟨s0, s1, _⟩ := hSw
      go_simp
    show wpAnyH _ _ _ _ _ _ _ (Act.put _ (some 4) _) _
    simp only [Act.put, List.setIfInBounds_toArray, List.set_cons_zero, List.set_cons_succ]
    refine wpAnyH_done (by kernel_rfl) ?_ _
    go_wp2_with fail
    go_ret
    exact .inl ⟨n, p, HNN.out, HFP.out, rfl, HG.out, hp6, HB1.out.trans (HB6.out.mono HB1.out.size)⟩
end
section
open Go.RowKit Go.Maps

/-- what Assign asks of a state. -/
structure StOk (n : Nat) (s : StT) : Prop where
  hn : n ≤ 256
  hE : s.E.length ≤ 16384
  hok : ∀ e ∈ s.E, 0 ≤ e.frm ∧ e.frm < n ∧ 0 ≤ e.dst ∧ e.dst < n
  hl : s.xs.length ≤ 19
  hsml : ∀ x ∈ s.xs, x.nodes.length ≤ 1000
  hul : s.us.length ≤ 64
  hsm : smallP s.ps = true
theorem FineP.ok {n : Nat} {s : StT} (h : FineP s) (hn : s.z = n) : StOk n s := by
  have hr := h.right
  have h2 := hr.2.1
  refine ⟨by omega, by have := hr.2.2.1; omega, fun e he => ?_, by have := h.small.1; omega, fun x hx => by have := h.small.2.2.2.2 x hx; omega, by have := h.small.2.1; omega, h.small.2.2.1⟩
  obtain ⟨a1, a2, a3, a4, _, _⟩ := hr.2.2.2 e he
  rw [hn] at a2 a4
  exact ⟨a1, a2, a3, a4⟩
set_option maxRecDepth 100000 in
set_option maxHeartbeats 8000000 in
theorem lsend_any (s : StT) (n p : Nat) (w : World) (hg : GraphAt w w.heap.size p n s.E) (hin : StIn w w.heap.size s) (hwf : StWf s) (hok : StOk n s) :
    Calls Tryd.prog 9 #[.pointer (some ⟨p, 0, none⟩), .agg #[.int .i64 s.z, .slice s.eA s.E.length s.ec, .slice s.tA s.ts.length s.tc, .slice s.iA s.xs.length s.ic, .slice s.uA s.us.length s.uc, .slice s.pA s.ps.length s.pc, .int .i64 s.rsv]] w (RetAsg w n s.E s.ts s.xs s.ps s.rsv s.us) := by
  obtain ⟨W, hW⟩ : ∃ W, W = w.alloc (stObj s) := ⟨_, rfl⟩
  have hbel : Below w.heap.size w W := by rw [hW]; exact (Below.refl _ _).alloc (Nat.le_refl _) _
  have hbx : BoxS w.heap.size s W := by rw [hW]; exact box_new w s
  have hin1 := hin.next hbel
  have HA := Lib.hid (assign_any p n s.E s.tA s.iA s.uA s.pA s.tc s.ic s.uc s.pc s.ts s.xs s.us s.ps s.rsv W ((hg.below hbel).more hbel.size) hok.hn hok.hE (fun e he => (hok.hok e he).2.2) hin1.t hin1.i hin1.n hwf.iw hok.hl hok.hsml hin1.u hwf.uw hok.hul hwf.un hin1.p hwf.pl hok.hsm)
  have HB := Lib.hid hbel
  obtain ⟨c0, c1, c2, c3, c4, c5, c6⟩ := hbx
  have hW2 : W = w.alloc (.cells #[.int .i64 s.z, .slice s.eA s.E.length s.ec, .slice s.tA s.ts.length s.tc, .slice s.iA s.xs.length s.ic, .slice s.uA s.us.length s.uc, .slice s.pA s.ps.length s.pc, .int .i64 s.rsv] 30) := hW
  clear hbel hin hin1 hwf hW hok hg
  go_enter Tryd.func9, Tryd.ntmps9
  go_upto_region 1 with fail
  rw [← hW2]
  clear hW2
  go_wp2_with fail
  ((with_reducible refine HA.out.mono ?_))
  rintro e w1 ⟨v, cs, us', rfl, h1, h2, h3, h4⟩
  have HR := Lib.hid (And.intro h1 (And.intro h2 (And.intro h3 h4)))
  clear h1 h2 h3 h4 HA
  go_wp2_with fail
  go_ret
  exact ⟨v, cs, us', rfl, HR.out.1, HR.out.2.1.base_le HB.out.size, HR.out.2.2.1, HB.out.trans (HR.out.2.2.2.mono HB.out.size)⟩
end
end Go.Proofs.YtimijjhdgihobaaDoor
