/-
  trace.reader: its state; word, finished, number.
-/
import Derived.Test.YtakdkiggaalimaaGreatDoorTrM
namespace Go.Proofs.YtakdkiggaalimaaGreatDoor
open Go.RowKit Go.Maps
open Go.Lib (itoa)

def wdV (w : Wd) : Value := .string (bs w)
abbrev RT : TypeId := 61
/-- a reader at block rb: the words that are left, none if something was bad. -/
def RdAt (rb : Nat) (st : Option (List Wd)) (X : World) : Prop :=
  ∃ (A : Option Addr) (ws : List Wd) (c : Nat) (bad : Bool), X.heap[rb]? = some (.cells #[.slice A ws.length c, .bool bad] RT (0, 0)) ∧ Sl X rb A (ws.map wdV) ∧ ws.length ≤ c ∧ ws.length ≤ 1000000 ∧ (∀ w ∈ ws, w.length ≤ 1000000) ∧ st = if bad then none else some ws
abbrev OnlyR (rb : Nat) (X Y : World) : Prop := Only (fun b => b = rb) X Y
theorem OnlyR.low {rb : Nat} {X Y : World} (h : OnlyR rb X Y) (hz : rb ≤ X.heap.size) : Below rb X Y := Only.below h hz (fun j e => by have e : j = rb := e; omega)
theorem OnlyR.seq {rb : Nat} {X Y Z : World} (h : OnlyR rb X Y) (k : OnlyR rb Y Z) : OnlyR rb X Z := Only.trans h k (fun _ _ e => e)
theorem OnlyR.of {rb : Nat} {X Y : World} (h : Below X.heap.size X Y) : OnlyR rb X Y := Only.of_below h
theorem RdAt.lt {rb : Nat} {st : Option (List Wd)} {X : World} (h : RdAt rb st X) : rb < X.heap.size := by
  obtain ⟨A, ws, c, bad, hb, _⟩ := h
  exact (Array.getElem?_eq_some_iff.1 hb).1
theorem RdAt.next {rb : Nat} {st : Option (List Wd)} {X Y : World} (h : RdAt rb st X) (hb : Below X.heap.size X Y) : RdAt rb st Y := by
  have hl := h.lt
  obtain ⟨A, ws, c, bad, h1, h2, h3, h4, h5, h6⟩ := h
  exact ⟨A, ws, c, bad, (hb.block rb hl).trans h1, Sl.below h2 (hb.mono (Nat.le_of_lt hl)), h3, h4, h5, h6⟩
theorem set_only {rb : Nat} (X : World) (j : Nat) (v : Value) : OnlyR rb X (X.setCell ⟨rb, j, none⟩ v) := Only.setCell (S := fun b => b = rb) Only.refl (a := ⟨rb, j, none⟩) (fun _ => rfl) v
theorem RdAt.spoil {rb : Nat} {st : Option (List Wd)} {X : World} (h : RdAt rb st X) : RdAt rb none (X.setCell ⟨rb, 1, none⟩ (.bool true)) := by
  have hl := h.lt
  obtain ⟨A, ws, c, bad, h1, h2, h3, h4, h5, h6⟩ := h
  refine ⟨A, ws, c, true, ?_, Sl.below h2 ((set_only X 1 _).low (Nat.le_of_lt hl)), h3, h4, h5, rfl⟩
  rw [heap_setCell_same X rb 1 _ _ _ h1]
  rfl
/-- what word returns. -/
def RetWd (rb : Nat) (st : Option (List Wd)) (X : World) (e : Ending) (Y : World) : Prop :=
  ∃ (w : Wd) (st' : Option (List Wd)), e = .returned (.string (bs w)) ∧ RdAt rb st' Y ∧ OnlyR rb X Y ∧ w.length ≤ 1000000 ∧ ((∃ r, st = some (w :: r) ∧ st' = some r) ∨ ((st = none ∨ st = some []) ∧ st' = none ∧ w = []))
theorem str_size (w : World) : (sizeOf 9).run Tryz.prog w = .ok 1 w := by go_simp
set_option maxRecDepth 100000 in
set_option maxHeartbeats 4000000 in
theorem rword_any (rb : Nat) (st : Option (List Wd)) (X : World) (h : RdAt rb st X) : Calls Tryz.prog 57 #[.pointer (some ⟨rb, 0, none⟩)] X (RetWd rb st X) := by
  have HH := Lib.hid h
  obtain ⟨A, ws, c, bad, h1, h2, h3, h4, h5, h6⟩ := h
  have hl := HH.out.lt
  have c0 : X.cell? ⟨rb, 0, none⟩ = some (.slice A ws.length c) := by rw [Lib.cell_of_heap h1]; rfl
  have c1 : X.cell? ⟨rb, 1, none⟩ = some (.bool bad) := by rw [Lib.cell_of_heap h1]; rfl
  have z0 := Lib.frozen_of_heap h1 0
  have z1 := Lib.frozen_of_heap h1 1
  have H1 := Lib.hid (And.intro h1 (And.intro h2 (And.intro h3 (And.intro h4 h5))))
  cases bad with
  | true =>
    have H6 := Lib.hid h6
    clear h1 h2 h3 h4 h5 h6
    go_enter Tryz.func57, Tryz.ntmps57
    go_wp2_with fail
    go_ret
    exact ⟨[], none, rfl, HH.out.spoil, set_only X 1 _, Nat.zero_le _, .inr ⟨.inl H6.out, rfl, rfl⟩⟩
  | false =>
    cases ws with
    | nil =>
      have H6 := Lib.hid h6
      clear h1 h2 h3 h4 h5 h6
      go_enter Tryz.func57, Tryz.ntmps57
      go_wp2_with fail
      go_ret
      exact ⟨[], none, rfl, HH.out.spoil, set_only X 1 _, Nat.zero_le _, .inr ⟨.inr H6.out, rfl, rfl⟩⟩
    | cons w r =>
      have H6 := Lib.hid h6
      obtain ⟨b, o, hA, hb, hc⟩ := h2 0 (wdV w) rfl
      unfold wdV at hc
      rw [Nat.add_zero] at hc
      have hbl : b < X.heap.size := by omega
      obtain ⟨n, hn⟩ : ∃ n, n = r.length := ⟨_, rfl⟩
      have HN := Lib.hid hn
      have hnl : (w :: r).length = n + 1 := by rw [hn]; rfl
      have hn4 : n + 1 ≤ 1000000 := by rw [← hnl]; exact h4
      have hcc : n + 1 ≤ c := by rw [← hnl]; exact h3
      rw [hnl] at c0
      have e0 : (((n + 1 : Nat) : Int) == 0) = false := by rw [beq_eq_false_iff_ne]; omega
      have hS := h2
      subst hA
      clear h1 h3 h4 h5 h6 hnl hn h2
      have hset : ∀ V, (X.setCell ⟨rb, 0, none⟩ V).heap[rb]? = some (.cells #[V, .bool false] RT (0, 0)) := fun V => by
        rw [heap_setCell_same X rb 0 _ _ _ H1.out.1]
        rfl
      have HSET := Lib.hid hset
      have HS := Lib.hid hS
      clear hset hS
      by_cases hc1 : c = 1
      · have HC1 := Lib.hid (show n = 0 by omega)
        go_enter Tryz.func57, Tryz.ntmps57
        go_wp2_with fail
        go_ret
        have hn := HN.out
        have hr0 : r = [] := List.eq_nil_of_length_eq_zero (by have := HC1.out; omega)
        subst hn
        refine ⟨w, some r, rfl, ⟨_, r, _, false, HSET.out _, ?_, ?_, ?_, ?_, rfl⟩, set_only X 0 _, H1.out.2.2.2.2 w (by simp), .inl ⟨r, H6.out, rfl⟩⟩
        · rw [hr0]
          exact Sl.empty
        · omega
        · omega
        · exact fun x hx => H1.out.2.2.2.2 x (by simp [hx])
      · go_enter Tryz.func57, Tryz.ntmps57
        go_wp2_with fail
        go_ret
        have hn := HN.out
        subst hn
        refine ⟨w, some r, rfl, ⟨_, r, _, false, HSET.out _, ?_, ?_, ?_, ?_, rfl⟩, set_only X 0 _, H1.out.2.2.2.2 w (by simp), .inl ⟨r, H6.out, rfl⟩⟩
        · refine Sl.below (fun i u hi => ?_) ((set_only X 0 _).low (Nat.le_of_lt hl))
          obtain ⟨b', o', e', hb', hcell⟩ := HS.out (i + 1) u (by simpa using hi)
          injection e' with e'
          injection e' with q1 q2
          subst q1 q2
          exact ⟨b, o + 1, rfl, hb', by rw [show o + 1 + i = o + (i + 1) by omega]; exact hcell⟩
        · omega
        · omega
        · exact fun x hx => H1.out.2.2.2.2 x (by simp [hx])
set_option maxRecDepth 100000 in
set_option maxHeartbeats 4000000 in
theorem rfin_any (rb : Nat) (st : Option (List Wd)) (X : World) (h : RdAt rb st X) : Calls Tryz.prog 29 #[.pointer (some ⟨rb, 0, none⟩)] X fun e Y => e = .returned (.bool (tb (st = some []))) ∧ Y = X := by
  have hl := h.lt
  obtain ⟨A, ws, c, bad, h1, h2, h3, h4, h5, h6⟩ := h
  have c0 : X.cell? ⟨rb, 0, none⟩ = some (.slice A ws.length c) := by rw [Lib.cell_of_heap h1]; rfl
  have c1 : X.cell? ⟨rb, 1, none⟩ = some (.bool bad) := by rw [Lib.cell_of_heap h1]; rfl
  have H6 := Lib.hid h6
  cases bad with
  | true =>
    clear h1 h2 h3 h4 h5 h6
    go_enter Tryz.func29, Tryz.ntmps29
    go_wp2_with fail
    go_ret
    exact ⟨ret_no (by rw [H6.out]; simp), rfl⟩
  | false =>
    cases ws with
    | nil =>
      clear h1 h2 h3 h4 h5 h6
      go_enter Tryz.func29, Tryz.ntmps29
      go_wp2_with fail
      go_ret
      exact ⟨ret_yes (by rw [H6.out]; simp), rfl⟩
    | cons w r =>
      have e0 : (((w :: r).length : Int) == 0) = false := by rw [beq_eq_false_iff_ne, List.length_cons]; omega
      obtain ⟨n, hn⟩ : ∃ n, n = (w :: r).length := ⟨_, rfl⟩
      rw [← hn] at c0 e0
      clear h1 h2 h3 h4 h5 h6 hn
      go_enter Tryz.func29, Tryz.ntmps29
      go_wp2_with fail
      go_ret
      exact ⟨ret_no (by rw [H6.out]; simp), rfl⟩
/-- what number returns. -/
def RetRn (rb : Nat) (st : Option (List Wd)) (X : World) (e : Ending) (Y : World) : Prop :=
  ∃ (n : Int) (st' : Option (List Wd)), e = .returned (.int .i64 n) ∧ RdAt rb st' Y ∧ OnlyR rb X Y ∧ Is64 n ∧ Rds Is64 numW st st' n
theorem Ready.low {rb : Nat} {X Y : World} (h : Ready X) (ho : OnlyR rb X Y) (hz : rb ≤ X.heap.size) (hg : Tryz.prog.globals.size ≤ rb) : Ready Y := h.kept (ho.low hz) hg
set_option maxRecDepth 100000 in
set_option maxHeartbeats 4000000 in
theorem rnum_any (rb : Nat) (st : Option (List Wd)) (X : World) (h : RdAt rb st X) (hr : Ready X) (hg : Tryz.prog.globals.size ≤ rb) : Calls Tryz.prog 56 #[.pointer (some ⟨rb, 0, none⟩)] X (RetRn rb st X) := by
  have HWD := Lib.hid (rword_any rb st X h)
  have HR := Lib.hid (And.intro hr (And.intro hg h.lt))
  clear h hr hg
  go_enter Tryz.func56, Tryz.ntmps56
  go_wp2_with fail
  refine HWD.out.mono ?_
  rintro e X1 ⟨w, st1, rfl, h1, ho1, hwl, hcase⟩
  have H1 := Lib.hid (And.intro h1 (And.intro ho1 hcase))
  have HR1 := Lib.hid (HR.out.1.low ho1 (Nat.le_of_lt HR.out.2.2) HR.out.2.1)
  have HPI := Lib.hid (parseInt_any (bs w) (by rw [bs_size]; omega) X1 HR1.out)
  clear h1 ho1 hcase
  go_wp2_with fail
  refine HPI.out.mono ?_
  rintro e X2 ⟨hc, hb2⟩
  rw [bs_data] at hc
  have H2 := Lib.hid (H1.out.1.next hb2)
  have HO2 := Lib.hid (show OnlyR rb X X2 from H1.out.2.1.seq (.of hb2))
  have HR2 := Lib.hid (HR1.out.below hb2)
  have hl2 := H2.out.lt
  have hfree : ∀ j, X2.frozen? ⟨rb, j, none⟩ = false := by
    obtain ⟨_, _, _, _, hq, _⟩ := H2.out
    exact fun j => Lib.frozen_of_heap hq j
  have hcell : ∃ b, X2.cell? ⟨rb, 1, none⟩ = some (.bool b) := by
    obtain ⟨_, _, _, b, hq, _⟩ := H2.out
    exact ⟨b, by rw [Lib.cell_of_heap hq]; rfl⟩
  obtain ⟨b1, c1⟩ := hcell
  have z1 := hfree 1
  clear hb2 hfree
  rcases hc with ⟨n, hn, rfl⟩ | ⟨hno, n, N, rfl⟩
  · have h64 := int_range hn
    have HF := Lib.hid (fmt_any n h64 X2 HR2.out)
    have HN := Lib.hid (And.intro hn h64)
    clear hn h64
    go_wp2_with fail
    refine HF.out.mono ?_
    rintro e X3 ⟨rfl, hb3⟩
    have H3 := Lib.hid (H2.out.next hb3)
    have HO3 := Lib.hid (HO2.out.seq (.of hb3))
    have c1' := (hb3.cell (p := ⟨rb, 1, none⟩) hl2).trans c1
    have z1' := (hb3.frozen (p := ⟨rb, 1, none⟩) hl2).trans z1
    have hl3 := H3.out.lt
    clear hb3 c1 z1 hl2
    by_cases he : itoa n = w
    · have e1 := str_eq (congrArg bs he)
      have e1' : ((bs (itoa n)).toList != (bs w).toList) = false := by unfold bne; rw [e1]; rfl
      have HE := Lib.hid he
      clear he
      go_wp2_with fail
      go_ret
      refine ⟨n, st1, rfl, H3.out, HO3.out, HN.out.2, ?_⟩
      have hcn : canon w = some n := by
        unfold canon
        rw [HN.out.1]
        simp [HE.out]
      rcases H1.out.2.2 with ⟨r, q1, q2⟩ | ⟨q1, q2, q3⟩
      · rw [q1, q2]
        exact rds_num hcn
      · rw [q3] at hcn
        have h0 : canon [] = none := by decide
        rw [h0] at hcn
        cases hcn
    · have e1 := str_ne (fun q => he (bs_inj q) : bs (itoa n) ≠ bs w)
      have e1' : ((bs (itoa n)).toList != (bs w).toList) = true := by unfold bne; rw [e1]; rfl
      have HE := Lib.hid he
      clear he
      go_wp2_with fail
      go_ret
      refine ⟨0, none, rfl, H3.out.spoil, HO3.out.seq (set_only X3 1 _), is64_0, ?_⟩
      have hcn : canon w = none := by
        unfold canon
        rw [HN.out.1]
        simp [HE.out]
      rcases H1.out.2.2 with ⟨r, q1, q2⟩ | ⟨q1, q2, q3⟩
      · rw [q1]
        exact rds_num_bad hcn
      · rcases q1 with q1 | q1
        · rw [q1]
          exact .bad
        · rw [q1]
          exact rds_num_none
  · have HN := Lib.hid hno
    clear hno
    go_wp2_with fail
    go_ret
    refine ⟨0, none, rfl, H2.out.spoil, HO2.out.seq (set_only X2 1 _), is64_0, ?_⟩
    have hcn : canon w = none := by
      cases hq : canon w with
      | none => rfl
      | some v =>
        obtain ⟨h1, h2⟩ := canon_some hq
        exact absurd (by rw [h2]; exact read_itoa h1) (HN.out v)
    rcases H1.out.2.2 with ⟨r, q1, q2⟩ | ⟨q1, q2, q3⟩
    · rw [q1]
      exact rds_num_bad hcn
    · rcases q1 with q1 | q1
      · rw [q1]
        exact .bad
      · rw [q1]
        exact rds_num_none
end Go.Proofs.YtakdkiggaalimaaGreatDoor
