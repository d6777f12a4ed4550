/-
  trace.reader: sources (printed by gentrrs.py).
-/
import Derived.Test.YtakdkiggaalimaaGreatDoorTrRl
namespace Go.Proofs.YtakdkiggaalimaaGreatDoor
open Go.RowKit Go.Maps
open Go.Lib (itoa)

theorem src_info : (Tryz.prog.info? 80).map (fun i => (i.zero, i.size, i.bytes)) = some (some (.agg #[.int .i64 0, .slice none 0 0]), 2, 32) := by kernel_rfl
theorem srcCs_one (s : SrcM) : ∀ u ∈ srcCs s, u.oneCell' = true := fun u hu => by
  rcases List.mem_cons.1 hu with e | e
  · rw [e]
    rfl
  · rw [List.mem_singleton.1 e]
    rfl
theorem rows_apart {W : World} {base base' : Nat} {e e' : TypeId} {s s' n n' : Nat} {v v' : Value} {xs xs' : List Value} (h : W.ownsRow base e s v n xs) (h' : W.ownsRow base' e' s' v' n' xs') (hne : e ≠ e') {k : Nat} (hk : v.ownBlock = some k) : v'.ownBlock ≠ some k := by
  intro hk'
  obtain ⟨_, h2⟩ := h
  obtain ⟨_, h3⟩ := h'
  rcases h2 with ⟨e1, _⟩ | ⟨g, cap, cur, e1, _, hh, _⟩
  · rw [e1] at hk
    cases hk
  · rcases h3 with ⟨e2, _⟩ | ⟨g', cap', cur', e2, _, hh', _⟩
    · rw [e2] at hk'
      cases hk'
    · rw [e1] at hk
      rw [e2] at hk'
      have q1 : g = k := by simpa [Value.ownBlock] using hk
      have q2 : g' = k := by simpa [Value.ownBlock] using hk'
      rw [q1] at hh
      rw [q2, hh] at hh'
      injection hh' with hh'
      injection hh' with _ hh' _
      exact hne hh'
def SrcB (s : SrcM) : Prop := Is64 s.kind ∧ s.nodes.length ≤ 1000000 ∧ ∀ v ∈ s.nodes, Is64 v
/-- sources of the call's own: a row of them, and the rows of their numbers. -/
structure SrcO (Y : World) (base : Nat) (v : Value) (l : List SrcM) : Prop where
  row : OwnR srcCs 2 Y base 80 v l
  nodes : ∀ s ∈ l, OwnI Y base 3 (.slice s.nA s.nodes.length s.nc) s.nodes
theorem SrcO.nil (Y : World) (base : Nat) : SrcO Y base (.slice none 0 0) [] := ⟨World.ownsRow_nil _ _ _ _, fun s hs => by cases hs⟩
theorem SrcO.only {rb : Nat} {Y Z : World} {base : Nat} {v : Value} {l : List SrcM} (h : SrcO Y base v l) (ho : OnlyR rb Y Z) (hb : rb < base) : SrcO Z base v l := ⟨own_only ho h.row hb, fun s hs => own_i_only ho (h.nodes s hs) hb⟩
theorem SrcO.push {Y Z : World} {base : Nat} {v v' : Value} {l : List SrcM} {s : SrcM} (h : SrcO Y base v l) (h' : OwnR srcCs 2 Z base 80 v' (l ++ [s])) (hg : Y.grownBy Z v.ownBlock) (hs : OwnI Y base 3 (.slice s.nA s.nodes.length s.nc) s.nodes) : SrcO Z base v' (l ++ [s]) := by
  have keep : ∀ t : SrcM, OwnI Y base 3 (.slice t.nA t.nodes.length t.nc) t.nodes → OwnI Z base 3 (.slice t.nA t.nodes.length t.nc) t.nodes := fun t ht =>
    Only.row (Only.of_grown (S := fun b => v.ownBlock = some b) hg (fun _ q => q)) ht (fun k hk q => rows_apart ht h.row (by decide) hk q)
  refine ⟨h', fun t ht => ?_⟩
  rcases List.mem_append.1 ht with e | e
  · exact keep t (h.nodes t e)
  · rw [List.mem_singleton.1 e]
    exact keep s hs
theorem SrcO.sl {Y : World} {base : Nat} {v : Value} {l : List SrcM} (h : SrcO Y base v l) : ∃ A c, v = .slice A l.length c := by
  obtain ⟨A, c, e, _⟩ := Sl.own h.row
  exact ⟨A, c, e⟩
/-- what sources returns. -/
def RetRs (rb : Nat) (st : Option (List Wd)) (X : World) (e : Ending) (Y : World) : Prop :=
  ∃ (l : List SrcM) (A : Option Addr) (c : Nat) (st' : Option (List Wd)), e = .returned (.slice A l.length c) ∧ RdAt rb st' Y ∧ OnlyR rb X Y ∧ SrcO Y X.heap.size (.slice A l.length c) l ∧ (l.length ≤ 1000000 ∧ ∀ v ∈ l, SrcB v) ∧ Rds VS sourcesW st st' (l.map SrcM.con)
set_option maxRecDepth 100000 in
set_option maxHeartbeats 8000000 in
theorem rsrcs_any (rb : Nat) (st : Option (List Wd)) (X : World) (h : RdAt rb st X) (hr : Ready X) (hg : Tryz.prog.globals.size ≤ rb) : Calls Tryz.prog 75 #[.pointer (some ⟨rb, 0, none⟩)] X (RetRs rb st X) := by
  have HNM := Lib.hid (rnum_any rb st X h hr hg)
  have HR := Lib.hid (And.intro hr (And.intro hg h.lt))
  clear h hr hg
  go_enter Tryz.func75, Tryz.ntmps75
  go_wp2_with fail
  refine HNM.out.mono ?_
  rintro e X1 ⟨n, st1, rfl, h1, ho1, h64, hrd⟩
  have H1 := Lib.hid (And.intro h1 (And.intro ho1 hrd))
  have HR1 := Lib.hid (HR.out.1.low ho1 (Nat.le_of_lt HR.out.2.2) HR.out.2.1)
  have hl1 := h1.lt
  obtain ⟨A, ws, c, bad, hb, hsl, hwc, hwl, hww, hst⟩ := h1
  have HW := Lib.hid (And.intro hwl hst)
  have c0 : X1.cell? ⟨rb, 0, none⟩ = some (.slice A ws.length c) := by rw [Lib.cell_of_heap hb]; rfl
  have c1 : X1.cell? ⟨rb, 1, none⟩ = some (.bool bad) := by rw [Lib.cell_of_heap hb]; rfl
  have z1 := Lib.frozen_of_heap hb 1
  obtain ⟨q, hq⟩ : ∃ q, q = ws.length := ⟨_, rfl⟩
  have HQ := Lib.hid hq
  rw [← hq] at c0 hwl
  clear ho1 hrd hb hsl hwc hww hst hq
  by_cases hn0 : n < 0
  · have d0 : decide (n < 0) = true := decide_eq_true hn0
    have HB : Hid (Rds VS sourcesW st none []) := Lib.hid (H1.out.2.2.sources_bad (fun ws' _ => .inl hn0))
    go_wp2_with fail
    go_ret
    exact ⟨[], none, 0, none, rfl, H1.out.1.spoil, H1.out.2.1.seq (set_only X1 1 _), SrcO.nil _ _, ⟨Nat.zero_le _, (fun v hv => by cases hv)⟩, HB.out⟩
  by_cases hnq : (q : Int) < n
  · have d0 : decide (n < 0) = false := decide_eq_false hn0
    have d1 : decide ((q : Int) < n) = true := decide_eq_true hnq
    have HB : Hid (Rds VS sourcesW st none []) := Lib.hid (H1.out.2.2.sources_bad (fun ws' e => by
      have h2 := HW.out.2
      rw [e] at h2
      cases bad with
      | true => cases h2
      | false =>
        have h2 : some ws' = some ws := h2
        injection h2 with h2
        rw [h2, ← HQ.out]
        exact .inr hnq))
    go_wp2_with fail
    go_ret
    exact ⟨[], none, 0, none, rfl, H1.out.1.spoil, H1.out.2.1.seq (set_only X1 1 _), SrcO.nil _ _, ⟨Nat.zero_le _, (fun v hv => by cases hv)⟩, HB.out⟩
  obtain ⟨k, hk⟩ : ∃ k : Nat, n = (k : Int) := ⟨n.toNat, by omega⟩
  subst hk
  have hkq : k ≤ q := by omega
  have d0 : decide ((k : Int) < 0) = false := decide_eq_false hn0
  have d1 : decide (q < k) = false := decide_eq_false (by omega)
  have HK := Lib.hid (show Rds Is64 numW st st1 (k : Int) from H1.out.2.2)
  clear hn0 hnq
  go_wp2_with fail
  clear c0 c1 z1
  go_loopw [4, 23] (fun v iv Y => ∃ (i : Nat) (l : List SrcM) (st2 : Option (List Wd)), i ≤ k ∧ iv = .int .i64 i ∧ SrcO Y X.heap.size v l ∧ l.length = i ∧ RdAt rb st2 Y ∧ OnlyR rb X Y ∧ (∀ x ∈ l, SrcB x) ∧ Rds (VNS i) srcsW st1 st2 (l.map SrcM.con)) (fun _ iv _ => k - (intOf iv).toNat)
  case atStart => exact ⟨0, [], st1, Nat.zero_le _, rfl, SrcO.nil _ _, rfl, H1.out.1, H1.out.2.1, (fun x hx => by cases hx), rds_srcs_start _⟩
  case round =>
    obtain ⟨i, l, st2, hi, rfl, hown, hll, hrd, hon, h64, hrs⟩ := hrel
    have HI := Lib.hid (And.intro hown (And.intro hll (And.intro hrd (And.intro hon (And.intro h64 hrs)))))
    have HRI := Lib.hid (HR.out.1.low hon (Nat.le_of_lt HR.out.2.2) HR.out.2.1)
    clear hown hll hrd hon h64 hrs
    by_cases hlt : i < k
    · have hlt' : (i : Int) < (k : Int) := by omega
      have HN2 := Lib.hid (rnum_any rb st2 wr HI.out.2.2.1 HRI.out HR.out.2.1)
      go_wp2_with fail
      refine HN2.out.mono ?_
      rintro e Y2 ⟨n2, st3, rfl, h3, ho3, h643, hrd3⟩
      have H3 := Lib.hid (And.intro h3 (And.intro ho3 (And.intro h643 hrd3)))
      have HO3 := Lib.hid (HI.out.1.only ho3 HR.out.2.2)
      have HSZ3 := Lib.hid (Nat.le_trans HI.out.2.2.2.1.size ho3.size)
      have HR3 := Lib.hid (HRI.out.low ho3 (Nat.le_of_lt HI.out.2.2.1.lt) HR.out.2.1)
      have HL3 := Lib.hid (rlist_any rb st3 Y2 h3 HR3.out HR.out.2.1)
      clear h3 ho3 h643 hrd3
      go_wp2_with fail
      refine HL3.out.mono ?_
      rintro e Y3 ⟨nl, nA, nc, st4, rfl, h4, ho4, hown4, hb4, hrd4⟩
      have H4 := Lib.hid (And.intro h4 (And.intro ho4 (And.intro (hown4.base_le HSZ3.out) (And.intro hb4 hrd4))))
      have HO4 := Lib.hid (HO3.out.only ho4 HR.out.2.2)
      have HSZ := Lib.hid (Nat.le_trans HSZ3.out ho4.size)
      have hz3 : rb < Y3.heap.size := h4.lt
      clear h4 ho4 hown4 hb4 hrd4
      go_wp2_with (at_builtin; refine wpList_append_rec (cs := srcCs) (s := 2) _ rfl _ _ 30 rfl X.heap.size 80 Tryz.underlying30 src_info rfl (by decide) (by decide) srcCs_len _ l Y3 (⟨n2, nA, nc, nl⟩ : SrcM) (srcCs_one _) _ rfl rfl rfl HO4.out.row _ rfl rfl (by have := HI.out.2.1; omega) HSZ.out ?_; intro v5 w5 hown5 hg5)
      have H5 := Lib.hid (And.intro (HO4.out.push hown5 hg5 H4.out.2.2.1) (And.intro (H4.out.1.grown HO4.out.row HR.out.2.2 hg5) (only_grown ((HI.out.2.2.2.1.seq H3.out.2.1).seq H4.out.2.1) HO4.out.row (Nat.le_refl _) hg5)))
      clear hown5 hg5
      go_wp2_with fail
      go_roundw
      case rel =>
        refine ⟨i + 1, l ++ [⟨n2, nA, nc, nl⟩], st4, by omega, by go_num, H5.out.1, by rw [List.length_append, HI.out.2.1]; rfl, H5.out.2.1, H5.out.2.2, fun x hx => ?_, ?_⟩
        · rcases List.mem_append.1 hx with e | e
          · exact HI.out.2.2.2.2.1 x e
          · rw [List.mem_singleton.1 e]
            exact ⟨H3.out.2.2.1, H4.out.2.2.2.1.1, H4.out.2.2.2.1.2⟩
        · rw [List.map_append]
          exact HI.out.2.2.2.2.2.srcs_snoc (H3.out.2.2.2.src H4.out.2.2.2.2)
      case measure => simp [intOf]; omega
    · obtain rfl : i = k := by omega
      obtain ⟨A5, c5, e5⟩ := SrcO.sl HI.out.1
      subst e5
      go_wp2_with fail
      go_ret
      exact ⟨l, A5, c5, st2, rfl, HI.out.2.2.1, HI.out.2.2.2.1, HI.out.1, ⟨by have := HI.out.2.1; omega, HI.out.2.2.2.2.1⟩, HK.out.sources (fun _ _ => by omega) HI.out.2.2.2.2.2⟩
end Go.Proofs.YtakdkiggaalimaaGreatDoor
