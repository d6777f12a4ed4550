/-
  trace.reader: list (printed by gentrrl.py).
-/
import Derived.Test.YtakdkiggaalimaaGreatDoorTrRd
namespace Go.Proofs.YtakdkiggaalimaaGreatDoor
open Go.RowKit Go.Maps
open Go.Lib (itoa)

theorem int_info : (Tryz.prog.info? 3).map (fun i => (i.zero, i.size, i.bytes)) = some (some (.int .i64 0), 1, 8) := by kernel_rfl
theorem own_only {rb : Nat} {X Y : World} {base : Nat} {e : TypeId} {s n : Nat} {v : Value} {xs : List Value} (h : OnlyR rb X Y) (hr : X.ownsRow base e s v n xs) (hb : rb < base) : Y.ownsRow base e s v n xs :=
  Only.row h hr (fun k hk q => by have h1 := (World.ownsRow.lt hr k hk).1; have q : k = rb := q; omega)
theorem own_i_only {rb : Nat} {X Y : World} {base : Nat} {v : Value} {l : List Int} (h : OnlyR rb X Y) (hr : OwnI X base 3 v l) (hb : rb < base) : OwnI Y base 3 v l := own_only h hr hb
/-- a row of its own that grows, beside the reader. -/
theorem only_grown {rb : Nat} {X Y Z : World} {base : Nat} {e : TypeId} {s n : Nat} {v : Value} {xs : List Value} (h : OnlyR rb X Y) (hr : Y.ownsRow base e s v n xs) (hb : X.heap.size ≤ base) (hg : Y.grownBy Z v.ownBlock) : OnlyR rb X Z :=
  h.trans (S' := fun b => v.ownBlock = some b) (Only.of_grown hg (fun _ q => q)) (fun j hj q => by have h1 := (World.ownsRow.lt hr j q).1; omega)
theorem RdAt.grown {rb : Nat} {st : Option (List Wd)} {Y Z : World} {base : Nat} {e : TypeId} {s n : Nat} {v : Value} {xs : List Value} (h : RdAt rb st Y) (hr : Y.ownsRow base e s v n xs) (hb : rb < base) (hg : Y.grownBy Z v.ownBlock) : RdAt rb st Z := by
  have hl := h.lt
  obtain ⟨A, ws, c, bad, h1, h2, h3, h4, h5, h6⟩ := h
  have ho : Only (fun b => v.ownBlock = some b) Y Z := Only.of_grown hg (fun _ q => q)
  have hne : ∀ k, v.ownBlock = some k → rb < k := fun k hk => by have := (World.ownsRow.lt hr k hk).1; omega
  exact ⟨A, ws, c, bad, (ho.block rb hl (fun q => by have := hne rb q; omega)).trans h1, Sl.below h2 (ho.below (Nat.le_of_lt hl) (fun j q => Nat.le_of_lt (hne j q))), h3, h4, h5, h6⟩
/-- what list returns. -/
def RetRl (rb : Nat) (st : Option (List Wd)) (X : World) (e : Ending) (Y : World) : Prop :=
  ∃ (l : List Int) (A : Option Addr) (c : Nat) (st' : Option (List Wd)), e = .returned (.slice A l.length c) ∧ RdAt rb st' Y ∧ OnlyR rb X Y ∧ OwnI Y X.heap.size 3 (.slice A l.length c) l ∧ (l.length ≤ 1000000 ∧ ∀ v ∈ l, Is64 v) ∧ Rds VL listW st st' l
theorem nil_own (X : World) (base : Nat) : OwnI X base 3 (.slice none 0 0) [] := OwnV.nil _ _ _
set_option maxRecDepth 100000 in
set_option maxHeartbeats 8000000 in
theorem rlist_any (rb : Nat) (st : Option (List Wd)) (X : World) (h : RdAt rb st X) (hr : Ready X) (hg : Tryz.prog.globals.size ≤ rb) : Calls Tryz.prog 76 #[.pointer (some ⟨rb, 0, none⟩)] X (RetRl rb st X) := by
  have HNM := Lib.hid (rnum_any rb st X h hr hg)
  have HR := Lib.hid (And.intro hr (And.intro hg h.lt))
  clear h hr hg
  go_enter Tryz.func76, Tryz.ntmps76
  go_wp2_with fail
  refine HNM.out.mono ?_
  rintro e X1 ⟨n, st1, rfl, h1, ho1, h64, hrd⟩
  have H1 := Lib.hid (And.intro h1 (And.intro ho1 hrd))
  have HR1 := Lib.hid (HR.out.1.low ho1 (Nat.le_of_lt HR.out.2.2) HR.out.2.1)
  have hl1 := h1.lt
  obtain ⟨A, ws, c, bad, hb, hsl, hwc, hwl, hww, hst⟩ := h1
  have HW := Lib.hid (And.intro hwl hst)
  have c0 : X1.cell? ⟨rb, 0, none⟩ = some (.slice A ws.length c) := by rw [Lib.cell_of_heap hb]; rfl
  have c1 : X1.cell? ⟨rb, 1, none⟩ = some (.bool bad) := by rw [Lib.cell_of_heap hb]; rfl
  have z1 := Lib.frozen_of_heap hb 1
  obtain ⟨q, hq⟩ : ∃ q, q = ws.length := ⟨_, rfl⟩
  have HQ := Lib.hid hq
  rw [← hq] at c0 hwl
  clear ho1 hrd hb hsl hwc hww hst hq
  by_cases hn0 : n < 0
  · have d0 : decide (n < 0) = true := decide_eq_true hn0
    have HB : Hid (Rds VL listW st none []) := Lib.hid (H1.out.2.2.list_bad (fun ws' _ => .inl hn0))
    go_wp2_with fail
    go_ret
    exact ⟨[], none, 0, none, rfl, H1.out.1.spoil, H1.out.2.1.seq (set_only X1 1 _), nil_own _ _, ⟨Nat.zero_le _, (fun v hv => by cases hv)⟩, HB.out⟩
  by_cases hnq : (q : Int) < n
  · have d0 : decide (n < 0) = false := decide_eq_false hn0
    have d1 : decide ((q : Int) < n) = true := decide_eq_true hnq
    have HB : Hid (Rds VL listW st none []) := Lib.hid (H1.out.2.2.list_bad (fun ws' e => by
      have h2 := HW.out.2
      rw [e] at h2
      cases bad with
      | true => cases h2
      | false =>
        have h2 : some ws' = some ws := h2
        injection h2 with h2
        rw [h2, ← HQ.out]
        exact .inr hnq))
    go_wp2_with fail
    go_ret
    exact ⟨[], none, 0, none, rfl, H1.out.1.spoil, H1.out.2.1.seq (set_only X1 1 _), nil_own _ _, ⟨Nat.zero_le _, (fun v hv => by cases hv)⟩, HB.out⟩
  obtain ⟨k, hk⟩ : ∃ k : Nat, n = (k : Int) := ⟨n.toNat, by omega⟩
  subst hk
  have hkq : k ≤ q := by omega
  have d0 : decide ((k : Int) < 0) = false := decide_eq_false hn0
  have d1 : decide (q < k) = false := decide_eq_false (by omega)
  have HK := Lib.hid (show Rds Is64 numW st st1 (k : Int) from H1.out.2.2)
  clear hn0 hnq
  go_wp2_with fail
  clear c0 c1 z1
  go_loopw [4, 22] (fun v iv Y => ∃ (i : Nat) (l : List Int) (st2 : Option (List Wd)), i ≤ k ∧ iv = .int .i64 i ∧ OwnI Y X.heap.size 3 v l ∧ l.length = i ∧ RdAt rb st2 Y ∧ OnlyR rb X Y ∧ (∀ x ∈ l, Is64 x) ∧ Rds (VN i) numsW st1 st2 l) (fun _ iv _ => k - (intOf iv).toNat)
  case atStart => exact ⟨0, [], st1, Nat.zero_le _, rfl, nil_own _ _, rfl, H1.out.1, H1.out.2.1, (fun x hx => by cases hx), rds_nums_start _⟩
  case round =>
    obtain ⟨i, l, st2, hi, rfl, hown, hll, hrd, hon, h64, hrs⟩ := hrel
    have HI := Lib.hid (And.intro hown (And.intro hll (And.intro hrd (And.intro hon (And.intro h64 hrs)))))
    have HRI := Lib.hid (HR.out.1.low hon (Nat.le_of_lt HR.out.2.2) HR.out.2.1)
    clear hown hll hrd hon h64 hrs
    by_cases hlt : i < k
    · have hlt' : (i : Int) < (k : Int) := by omega
      have HN2 := Lib.hid (rnum_any rb st2 wr HI.out.2.2.1 HRI.out HR.out.2.1)
      go_wp2_with fail
      refine HN2.out.mono ?_
      rintro e Y2 ⟨n2, st3, rfl, h3, ho3, h643, hrd3⟩
      have H3 := Lib.hid (And.intro h3 (And.intro ho3 (And.intro h643 hrd3)))
      have HO3 := Lib.hid (own_i_only ho3 HI.out.1 HR.out.2.2)
      have hsz := HI.out.2.2.2.1.size
      have HSZ := Lib.hid (Nat.le_trans hsz ho3.size)
      clear h3 ho3 h643 hrd3 hsz
      go_wp2_with (at_builtin; refine wpList_append_int _ rfl _ _ 31 rfl X.heap.size 3 Tryz.underlying31 int_info _ l Y2 n2 rfl rfl HO3.out rfl (by have := HI.out.2.1; omega) HSZ.out ?_; intro v4 w4 hown4 hg4)
      have H4 := Lib.hid (And.intro hown4 (And.intro (H3.out.1.grown HO3.out HR.out.2.2 hg4) (only_grown (HI.out.2.2.2.1.seq H3.out.2.1) HO3.out (Nat.le_refl _) hg4)))
      clear hown4 hg4
      go_wp2_with fail
      go_roundw
      case rel =>
        refine ⟨i + 1, l ++ [n2], st3, by omega, by go_num, H4.out.1, by rw [List.length_append, HI.out.2.1]; rfl, H4.out.2.1, H4.out.2.2, fun x hx => ?_, HI.out.2.2.2.2.2.nums_snoc H3.out.2.2.2⟩
        rcases List.mem_append.1 hx with e | e
        · exact HI.out.2.2.2.2.1 x e
        · rw [List.mem_singleton.1 e]
          exact H3.out.2.2.1
      case measure => simp [intOf]; omega
    · obtain rfl : i = k := by omega
      obtain ⟨A5, c5, e5, _⟩ := OwnV.sl HI.out.1
      subst e5
      go_wp2_with fail
      go_ret
      exact ⟨l, A5, c5, st2, rfl, HI.out.2.2.1, HI.out.2.2.2.1, HI.out.1, ⟨by have := HI.out.2.1; omega, HI.out.2.2.2.2.1⟩, HK.out.list (fun _ _ => by omega) HI.out.2.2.2.2.2⟩
end Go.Proofs.YtakdkiggaalimaaGreatDoor
