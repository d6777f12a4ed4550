/-
  nodeset.String: the walk.
-/
import Derived.Test.YtalfjcamjdmdjaaDoorStrP
import Derived.Test.YtalfjcamjdmdjaaDoorMin
namespace Go.Proofs.YtalfjcamjdmdjaaDoor
open Go.RowKit Go.Shelf
attribute [local go_sem] Oper.semAt_some

theorem wpIn_region_held_wide {S : World → Prop} {n : Nat} {P : Program} {id : Nat} {Q : Exit → Act → World → Prop} {a : Act} {w : World} {ops : Array Oper} (hm : P.follows .mixedOrders = true) (hS : S w.drew)
    (h : S w.drew → wpAnyH P .any ops (fun e a' w' => e = .normal ∧ Q .normal a' w') S ops.size (Array.replicate ops.size false) a w.drew) : (Code.region id ops true).wpIn Fence.wide n P Q a w := by
  refine wpIn_mono (Q := fun e a' w' => e = .normal ∧ Q .normal a' w') ?_ (fun e a' w' hh => by obtain ⟨rfl, k⟩ := hh; exact k)
  have hq : ¬ LetsOut (fun (e : Exit) (a' : Act) (w' : World) => e = .normal ∧ Q .normal a' w') := by
    rintro ⟨_, _, e, _⟩
    cases e
  exact wpIn_region_any hm (wpAnyIn_of_wpAny hq _ _ _ _ (wpAny_of_held _ _ _ _ (h hS)))
theorem str_info : (Tryd.prog.info? 9).map (fun i => (i.zero, i.size, i.bytes)) = some (some (.string ⟨#[]⟩), 1, 16) := by kernel_rfl
theorem lens_le {k : Nat} : ∀ (acc : List (List UInt8)), (∀ x ∈ acc, x.length ≤ k) → Lib.lens acc ≤ k * acc.length
  | [], _ => Nat.zero_le _
  | x :: acc, h => by
    have h1 := lens_le acc (fun y hy => h y (by simp [hy]))
    have h2 := h x (by simp)
    simp only [Lib.lens, List.map_cons, List.sum_cons, List.length_cons] at h1 ⊢
    rw [Nat.mul_succ]
    omega
theorem join_small {acc : List (List UInt8)} (h : ∀ x ∈ acc, x.length ≤ 9) : (Lib.join acc [44]).length ≤ 10 * acc.length := by
  cases acc with
  | nil => exact Nat.zero_le _
  | cons x r =>
    rw [Lib.join_length]
    have := lens_le _ h
    simp only [List.length_cons, List.length_nil] at this ⊢
    omega
theorem joinS_any (w : World) (v : Value) (base : Nat) (acc : List (List UInt8)) (h : OwnV strV w base 9 v acc) (hs : ∀ x ∈ acc, x.length ≤ 9) (hl : acc.length ≤ 4097) :
    Calls Tryd.prog 39 #[v, .string ⟨#[44]⟩] w fun e w' => e = .returned (.string (bs (Lib.join acc [44]))) ∧ Below w.heap.size w w' := by
  have hj := join_small hs
  have hmap : (acc.map bs).map (·.data.toList) = acc := by
    rw [List.map_map]
    conv => rhs; rw [← List.map_id acc]
    exact List.map_congr_left (fun x _ => bs_data x)
  have hown := h
  obtain ⟨_, h2⟩ := h
  rcases h2 with ⟨rfl, hn⟩ | ⟨g, cap, cur, rfl, _, hh, hc, _⟩
  · have e : acc = [] := List.eq_nil_of_length_eq_zero hn
    subst e
    refine (Tryd.strings_Join_none none 0 ⟨#[44]⟩ w).mono ?_
    rintro e w' ⟨rfl, rfl⟩
    exact ⟨rfl, Below.refl _ _⟩
  · have := Tryd.strings_Join g 0 cap (acc.map bs) ⟨#[44]⟩ w (fun j x hx => by
      rw [List.getElem?_map] at hx
      obtain ⟨z, hz, rfl⟩ := Option.map_eq_some_iff.1 hx
      obtain ⟨b, o, e, hc⟩ := hown.cell hz
      cases e
      exact hc) (Array.getElem?_eq_some_iff.1 hh).1 (by rw [List.length_map]; omega) (by rw [List.length_map]; exact hc) (by rw [hmap]; show (Lib.join acc [44]).length ≤ _; omega)
    rw [hmap, List.length_map] at this
    exact this
/-- what the regions with an append need. -/
structure StrS (w : World) (fb lb : Nat) (f l : Int) (X : World) : Prop where
  cf : X.cell? ⟨fb, 0, none⟩ = some (.int .i64 f)
  cl : X.cell? ⟨lb, 0, none⟩ = some (.int .i64 l)
  ready : Ready6 X
theorem SSt.s {w W : World} {rb fb lb : Nat} {v : Value} {acc : List (List UInt8)} {f l : Int} (h : SSt w rb fb lb v acc f l W) (hr : Ready6 w) : StrS w fb lb f l W := ⟨(one_cell h.cf).1, (one_cell h.cl).1, hr.keep h.below hr.room⟩
theorem SSt.s_grown {w W W' : World} {rb fb lb : Nat} {v : Value} {acc : List (List UInt8)} {f l : Int} (h : SSt w rb fb lb v acc f l W) (hr : Ready6 w) (hg : W.grownBy W' v.ownBlock) : StrS w fb lb f l W' := by
  have ho : Only (fun b => v.ownBlock = some b) W W' := Only.of_grown hg (fun j e => e)
  obtain ⟨m1, m2, m3⟩ := h.lt
  refine ⟨(ho.cell (a := ⟨fb, 0, none⟩) m2 (fun e => (h.row e).2.2.2.1 rfl)).trans (one_cell h.cf).1, (ho.cell (a := ⟨lb, 0, none⟩) m3 (fun e => (h.row e).2.2.2.2.1 rfl)).trans (one_cell h.cl).1, ?_⟩
  exact hr.keep (h.below.trans (ho.below h.below.size (fun j e => (h.row e).1))) hr.room
/-- the end of a round. -/
theorem str_end {w W W' : World} {B rb fb lb : Nat} {p : Option Addr} {V : List Nat} {v v' : Value} {acc acc' : List (List UInt8)} {f l f' l' : Int} {pre : List {z : Nat // z ∈ nodesW V}} {x : {z : Nat // z ∈ nodesW V}} {L : List Nat} (hL : (pre ++ [x]).map Subtype.val = L ++ [x.1])
    (h : SSt w rb fb lb v acc f l W) (h' : SSt w rb fb lb v' acc' f' l' W') (ho : Only (strB rb fb lb v) W W') (hrow : rowOf p < w.heap.size) (hg : 0 < w.heap.size)
    (e1 : (rStep (rSt L) x.1).1 = acc') (e2 : fstI (rStep (rSt L) x.1) = f') (e3 : lstI (rStep (rSt L) x.1) = l') :
    KeepsFrom B W W' ∧ KeepTwo (rowOf p) W W' ∧ ∃ u, SSt w rb fb lb u (rSt ((pre ++ [x]).map Subtype.val)).1 (fstI (rSt ((pre ++ [x]).map Subtype.val))) (lstI (rSt ((pre ++ [x]).map Subtype.val))) W' := by
  refine ⟨keeps_from ho (fun j s _ => (h.cells s).2), KeepTwo.only ho (Nat.lt_of_lt_of_le hrow h.below.size) (Nat.lt_of_lt_of_le hg h.below.size) (fun s => ?_) (fun s => ?_), v', ?_⟩
  · have := (h.cells s).1
    omega
  · have := (h.cells s).1
    omega
  · rw [hL, rSt_snoc, e1, e2, e3]
    exact h'
theorem str_leave {w W : World} {rb fb lb D : Nat} {v : Value} {acc : List (List UInt8)} {f l : Int} (h : SSt w rb fb lb v acc f l W) (hs : ∀ x ∈ acc, x.length ≤ 9) (hl : acc.length ≤ 4097) (hm : W.heap[D]? = some (.deferred (some []))) :
    CallsIn Fence.wide 3 Tryd.prog 39 #[v, .string ⟨#[44]⟩] W fun e w' => e = .returned (.string (bs (Lib.join acc [44]))) ∧ Below w.heap.size w w' ∧ w'.heap[D]? = some (.deferred (some [])) :=
  (callsIn_wide.2 (joinS_any W v _ acc h.own hs hl)).mono fun _ _ ⟨h1, h2⟩ => ⟨h1, h.below.trans (h2.mono h.below.size), (h2.block D (Array.getElem?_eq_some_iff.1 hm).1).trans hm⟩
set_option maxRecDepth 100000 in
set_option maxHeartbeats 4000000 in
theorem string_any (w : World) (p : Option Addr) (V : List Nat) (h : SetAt w p V) (hr : Ready6 w) : Calls Tryd.prog 16 #[.agg #[.pointer p]] w fun e w' => e = .returned (.string (bs (textL (nodesW V)))) ∧ Below w.heap.size w w' := by
  have hg := hr.glt
  have hT := hr.bru
  refine (callsIn_wide (n := 4)).1 ?_
  refine callsIn_of_wp_marks Tryd.func16 rfl trivial ?_ rfl
  simp only [Tryd.ntmps16, List.size_toArray, List.length_cons, List.length_nil, Nat.reduceAdd, Nat.reduceSub, Array.replicate_succ, Array.replicate_zero, List.push_toArray, List.append_toArray, List.nil_append, List.cons_append]
  have HR := Lib.hid hr
  clear hr
  gi_wp2
  refine ⟨trivial, (callsIn_wide.2 (each_any _ p)).mono ?_⟩
  rintro e w' ⟨rfl, rfl⟩
  gi_wp2
  have hV := h.1
  have a0 : ∀ (X : World) (v : Value) (t : TypeId), (X.alloc (.cells #[v] t)).heap[X.heap.size]? = some (.cells #[v] t (0, 0)) := fun X v t => heap_alloc_new X _
  obtain ⟨w1, hw1⟩ : ∃ w1, w1 = w.alloc (.cells #[.pointer p] 30) := ⟨_, rfl⟩
  have hb1 : Below w.heap.size w w1 := by rw [hw1]; exact (Below.refl _ _).alloc (Nat.le_refl _) _
  have hz1 : w1.heap.size = w.heap.size + 1 := by rw [hw1]; simp
  rw [← hw1]
  obtain ⟨w2, hw2⟩ : ∃ w2, w2 = w1.alloc (.cells #[.slice none 0 0] 60) := ⟨_, rfl⟩
  have e2 : w2.heap[w.heap.size + 1]? = some (.cells #[.slice none 0 0] 60 (0, 0)) := by rw [hw2, ← hz1]; exact a0 _ _ _
  have hb2 : Below w1.heap.size w1 w2 := by rw [hw2]; exact (Below.refl _ _).alloc (Nat.le_refl _) _
  have hz2 : w2.heap.size = w.heap.size + 1 + 1 := by rw [hw2]; simp [hz1]
  rw [← hw2]
  obtain ⟨w3, hw3⟩ : ∃ w3, w3 = w2.alloc (.cells #[.int .i64 (-1)] 3) := ⟨_, rfl⟩
  have e3 : w3.heap[w.heap.size + 1 + 1]? = some (.cells #[.int .i64 (-1)] 3 (0, 0)) := by rw [hw3, ← hz2]; exact a0 _ _ _
  have hb3 : Below w2.heap.size w2 w3 := by rw [hw3]; exact (Below.refl _ _).alloc (Nat.le_refl _) _
  have hz3 : w3.heap.size = w.heap.size + 1 + 1 + 1 := by rw [hw3]; simp [hz2]
  rw [← hw3]
  obtain ⟨w4, hw4⟩ : ∃ w4, w4 = w3.alloc (.cells #[.int .i64 (-1)] 3) := ⟨_, rfl⟩
  have e4 : w4.heap[w.heap.size + 1 + 1 + 1]? = some (.cells #[.int .i64 (-1)] 3 (0, 0)) := by rw [hw4, ← hz3]; exact a0 _ _ _
  have hb4 : Below w3.heap.size w3 w4 := by rw [hw4]; exact (Below.refl _ _).alloc (Nat.le_refl _) _
  have hz4 : w4.heap.size = w.heap.size + 1 + 1 + 1 + 1 := by rw [hw4]; simp [hz3]
  rw [← hw4]
  obtain ⟨W0, hW0⟩ : ∃ W0, W0 = w4.alloc (.cells #[.pointer p] 30) := ⟨_, rfl⟩
  have e5 : W0.heap[w.heap.size + 1 + 1 + 1 + 1]? = some (.cells #[.pointer p] 30 (0, 0)) := by rw [hW0, ← hz4]; exact a0 _ _ _
  have hb5 : Below w4.heap.size w4 W0 := by rw [hW0]; exact (Below.refl _ _).alloc (Nat.le_refl _) _
  have hz5 : W0.heap.size = w.heap.size + 1 + 1 + 1 + 1 + 1 := by rw [hW0]; simp [hz4]
  rw [← hW0]
  have hB0 : Below w.heap.size w W0 := hb1.trans ((hb2.trans ((hb3.trans ((hb4.trans (hb5.mono (by omega))).mono (by omega))).mono (by omega))).mono (by omega))
  obtain ⟨rb, hrb⟩ : ∃ b, b = w.heap.size + 1 := ⟨_, rfl⟩
  rw [← hrb] at e2 e3 e4 e5 hz5 ⊢
  have hsc := (one_cell e5).1
  have hS0 : SSt w rb (rb + 1) (rb + 1 + 1) (.slice none 0 0) [] (-1) (-1) W0 := by
    refine ⟨?_, ?_, ?_, OwnV.nil _ _ _, hB0, by omega, by omega, by omega⟩
    · exact ((hb5.block rb (by omega)).trans ((hb4.block rb (by omega)).trans (hb3.block rb (by omega)))).trans e2
    · exact ((hb5.block (rb + 1) (by omega)).trans (hb4.block (rb + 1) (by omega))).trans e3
    · exact (hb5.block (rb + 1 + 1) (by omega)).trans e4
  have hset := h.below hB0
  have hbru : BruAt W0 := fun j hj => (hB0.cell (p := ⟨0, j, none⟩) hg).trans (hT j hj)
  have hrow := rowOf_lt h hg
  obtain ⟨fb, hfb⟩ : ∃ b, b = rb + 1 := ⟨_, rfl⟩
  obtain ⟨lb, hlb⟩ : ∃ b, b = rb + 1 + 1 := ⟨_, rfl⟩
  obtain ⟨sb, hsb⟩ : ∃ b, b = rb + 1 + 1 + 1 := ⟨_, rfl⟩
  have hord : rb ≠ fb ∧ fb ≠ lb ∧ rb ≠ lb ∧ lb ≠ fb := by omega
  have hsz : sb < W0.heap.size := by omega
  have HVL := Lib.hid hV
  rw [← hsb] at hsc ⊢
  rw [← hlb, ← hfb] at hS0
  rw [← hlb, ← hfb]
  have hpl := nodes_leN hV
  have hln := nodes_len V
  clear h hT hV hw1 hw2 hw3 hw4 hW0 hz1 hz2 hz3 hz4 hz5 hb1 hb2 hb3 hb4 hb5 e2 e3 e4 e5 a0 hrb hfb hlb hsb
  obtain ⟨o1, o2, o3, o4⟩ := hord
  refine wpIn_rangeFunc_ownG rfl (by omega) (gf := 36) (lb := #[.pointer (some ⟨sb, 0, none⟩)]) rfl trivial (enters_of Tryd.func36 (by kernel_rfl) rfl)
    (each_stops 3 (by omega) sb p V W0 hset hsc hsz hbru (Nat.lt_of_lt_of_le hg hB0.size))
    KeepTwo.trans (fun W l o o' hl _ _ _ => KeepTwo.put (B := W0.heap.size) (Nat.lt_of_lt_of_le hrow hB0.size) W l o' hl) (Below.refl _ _) (fun _ => rfl)
    (fun (pre : List {z : Nat // z ∈ nodesW V}) W => ∃ v, SSt w rb fb lb v (rSt (pre.map Subtype.val)).1 (fstI (rSt (pre.map Subtype.val))) (lstI (rSt (pre.map Subtype.val))) W) (fun _ _ _ => False)
    (fun s A B row hs hgr hr => by obtain ⟨v, hs⟩ := hs; exact ⟨v, hs.grown hB0.size hgr hr⟩) (fun _ _ _ _ _ hs _ _ => hs) ⟨_, hS0⟩
    (fun y => { tmps := #[.agg #[.pointer p], .pointer (some ⟨w.heap.size, 0, none⟩), .string ⟨#[]⟩, .pointer (some ⟨rb, 0, none⟩), .pointer (some ⟨fb, 0, none⟩), .pointer (some ⟨lb, 0, none⟩), .int .i64 y.1, .agg #[.pointer p], .func (.func 36) #[] #[.pointer (some ⟨sb, 0, none⟩)], .int .i64 y.1, undef, undef, undef, undef, undef, undef, undef, undef, undef, undef, undef, undef, undef, undef, undef, undef, undef, undef, undef, undef, undef, undef, undef, undef, undef, undef, undef, undef], defers := [] }) ?assign ?body ?done ?stop
  case assign =>
    intro l y W K hK
    gi_wp2
    exact hK
  case stop =>
    rintro D c pre W _ _ h _
    exact h.elim
  case done =>
    rintro D xs W hD rfl ⟨v, h⟩ hm
    have hDw : w.heap.size ≤ D := Nat.le_trans hB0.size hD
    rw [List.attach_map_subtype_val] at h
    have hok := rSt_ok (L := nodesW V) (fun n hn => by have := nodes_lt hn; rw [HVL.out.len] at this; exact this)
    have hal := rSt_len (nodesW V)
    have htx : textL (nodesW V) = Lib.join (rEnd (rSt (nodesW V))) [44] := rfl
    obtain ⟨acc, o, hst⟩ : ∃ acc o, rSt (nodesW V) = (acc, o) := ⟨_, _, rfl⟩
    rw [hst] at h hok hal htx
    dsimp only at h hal
    clear hS0 hset hsc hbru hst
    cases o with
    | none =>
      have HTX := Lib.hid htx
      have HOK := Lib.hid hok
      clear htx hok
      have h : SSt w rb fb lb v acc (-1) (-1) W := h
      have hcr := (one_cell h.cr).1
      have hcf := (one_cell h.cf).1
      have HJ := Lib.hid (str_leave h HOK.out.short (by omega) hm)
      clear h hm
      gi_wp2
      refine ⟨trivial, HJ.out.mono ?_⟩
      rintro e w5 ⟨rfl, hb5, hm5⟩
      have H5 := Lib.hid (And.intro hb5 hm5)
      clear hb5 hm5
      gi_wp2
      refine leaves_one H5.out.2 fun W' hW' => ⟨_, results_tmp rfl _ _ _, ?_⟩
      refine ⟨ret_str ?_, H5.out.1.trans (hW'.below H5.out.1.size (fun j e => by have e : j = D := e; omega))⟩
      rw [HTX.out]
      rfl
    | some fl =>
      obtain ⟨f0, l0⟩ := fl
      obtain ⟨hf, hl⟩ := hok.op f0 l0 rfl
      have HTX := Lib.hid (show textL (nodesW V) = Lib.join (acc ++ [runT f0 l0]) [44] from htx)
      have HOK := Lib.hid hok
      have HTL := Lib.hid (runT_len hf hl)
      have HF := Lib.hid (fun (X : World) (hX : Ready6 X) => formatRun_any f0 l0 hf hl X hX)
      obtain ⟨T, hT⟩ : ∃ T, T = runT f0 l0 := ⟨_, rfl⟩
      have HTT := Lib.hid hT
      rw [← hT] at HF HTL
      clear htx hok hT
      have h : SSt w rb fb lb v acc (f0 : Int) (l0 : Int) W := h
      have hcf := (one_cell h.cf).1
      gi_wp2
      clear hcf
      have h0 : SSt w rb fb lb v acc f0 l0 W.drew := h.next (Below.refl _ _).drew
      have hB0 : Below W.heap.size W W.drew := (Below.refl _ _).drew
      refine wpIn_region_held_wide (S := StrS w fb lb f0 l0) (by kernel_rfl) (h0.s HR.out) (fun hHeld => ?_)
      obtain ⟨U0, hU0⟩ : ∃ U, U = W.drew := ⟨_, rfl⟩
      rw [← hU0] at h0 hB0 hHeld ⊢
      clear hU0
      refine wpAnyH_take (i := 1) (v := .int .i64 f0) rfl (by kernel_rfl) (by kernel_rfl) (by kernel_rfl) (fun _ _ _ h => by cases h.1) (Or.inl ⟨by rfl, ?_⟩) (by assumption) ?_
      · intro w hSw
        obtain ⟨s0, s1, _⟩ := hSw
        go_simp
      show wpAnyH _ _ _ _ _ _ _ (Act.put _ (some 31) _) _
      simp only [Act.put, List.setIfInBounds_toArray, List.set_cons_zero, List.set_cons_succ]
      refine wpAnyH_take (i := 2) (v := .int .i64 l0) rfl (by kernel_rfl) (by kernel_rfl) (by kernel_rfl) (fun _ _ _ h => by cases h.1) (Or.inl ⟨by rfl, ?_⟩) (by assumption) ?_
      · intro w hSw
        obtain ⟨s0, s1, _⟩ := hSw
        go_simp
      show wpAnyH _ _ _ _ _ _ _ (Act.put _ (some 32) _) _
      simp only [Act.put, List.setIfInBounds_toArray, List.set_cons_zero, List.set_cons_succ]
      refine wpAnyH_ready (rs := [0, 3]) (by kernel_rfl) (by simp) ?_
      refine AllReadyH.cons rfl (fun K hK => ?_) (AllReadyH.cons rfl (fun K hK => ?_) AllReadyH.nil)
      · have cr := (one_cell h0.cr).1
        go_simp
        refine hK.out _ _ (h0.s HR.out) (fun hHeld => ?_)
        clear hK K cr
        refine wpAnyH_ready (rs := [3]) (by kernel_rfl) (by simp) ?_
        refine AllReadyH.cons rfl (fun K hK => ?_) AllReadyH.nil
        go_simp
        refine (HF.out _ (h0.s HR.out).ready).mono ?_
        rintro e w2 ⟨rfl, hb2⟩
        have h2 := h0.next hb2
        go_simp
        refine hK.out _ _ (h2.s HR.out) (fun hHeld => ?_)
        clear hK K
        refine wpAnyH_ready (rs := [4]) (by kernel_rfl) (by simp) ?_
        refine AllReadyH.cons rfl (fun K hK => ?_) AllReadyH.nil
        have h3 := h2.next ((Below.refl _ _).alloc (Nat.le_refl _) (.cells #[.string (bs T)] 9))
        have hsl := Sl.lit w2 [strV T] 9 rfl
        go_simp
        refine hK.out _ _ (h3.s HR.out) (fun hHeld => ?_)
        clear hK K
        refine wpAnyH_ready (rs := [5]) (by kernel_rfl) (by simp) ?_
        refine AllReadyH.cons rfl (fun K hK => ?_) AllReadyH.nil
        refine step_append_sl _ (by rfl) (.tmp 30) (.tmp 34) 60 (by rfl) 9 Tryd.underlying60 str_info rfl (by decide) w.heap.size _ acc (by rfl) h3.own _ _ 1 1 [T] (by rfl) rfl (by simp) hsl (by intro y _; rfl) (by simp; omega) h3.below.size ?_
        intro v' w' hown' hg'
        obtain ⟨A', n', c', rfl⟩ : ∃ A' n' c', v' = .slice A' n' c' := by obtain ⟨A, c, e, _⟩ := OwnV.sl hown'; exact ⟨A, _, c, e⟩
        obtain ⟨c1, c2, h4, ho4⟩ := h3.push hown' hg'
        refine hK.out _ _ (h3.s_grown HR.out hg') (fun hHeld => ?_)
        clear hK K hsl
        refine wpAnyH_ready (rs := [6]) (by kernel_rfl) (by simp) ?_
        refine AllReadyH.cons rfl (fun K hK => ?_) AllReadyH.nil
        go_simp
        refine hK.out _ _ (h4.s HR.out) (fun hHeld => ?_)
        clear hK K c1 c2
        have ho4 : Only (strB rb fb lb v) W (w'.setCell ⟨rb, 0, none⟩ (.slice A' n' c')) := (Only.of_below (below_then (below_then hB0 hb2) ((Below.refl _ _).alloc (Nat.le_refl _) (.cells #[.string (bs T)] 9)))).trans ho4 (fun _ _ s => s)
        obtain ⟨U4, hU4⟩ : ∃ U, U = w'.setCell ⟨rb, 0, none⟩ (.slice A' n' c') := ⟨_, rfl⟩
        refine wpAnyH_done (by kernel_rfl) ⟨rfl, ?_⟩ _
        rw [← hU4] at h4 ho4 ⊢
        clear hU4 hHeld hown' hg' h3 h2 hb2 h0 hB0
        have hm4 := (ho4.block D (Array.getElem?_eq_some_iff.1 hm).1 (fun s => by
          obtain ⟨_, o, p1, q1⟩ := h.cells s
          rw [hm] at p1
          cases p1
          cases q1)).trans hm
        have hcr := (one_cell h4.cr).1
        have HJ := Lib.hid (str_leave h4 (fun y hy => by
          rcases List.mem_append.1 hy with hy | hy
          · exact HOK.out.short y hy
          · rw [List.mem_singleton.1 hy]; exact HTL.out) (by rw [List.length_append, List.length_singleton]; omega) hm4)
        clear h4 ho4 h hm4 hm
        gi_wp2
        refine ⟨trivial, HJ.out.mono ?_⟩
        rintro e w5 ⟨rfl, hb5, hm5⟩
        have H5 := Lib.hid (And.intro hb5 hm5)
        clear hb5 hm5
        gi_wp2
        refine leaves_one H5.out.2 fun W' hW' => ⟨_, results_tmp rfl _ _ _, ?_⟩
        refine ⟨ret_str ?_, H5.out.1.trans (hW'.below H5.out.1.size (fun j e => by have e : j = D := e; omega))⟩
        rw [HTX.out, HTT.out]
      · go_simp
        refine (HF.out _ (h0.s HR.out).ready).mono ?_
        rintro e w2 ⟨rfl, hb2⟩
        have h2 := h0.next hb2
        go_simp
        refine hK.out _ _ (h2.s HR.out) (fun hHeld => ?_)
        clear hK K
        refine wpAnyH_ready (rs := [0, 4]) (by kernel_rfl) (by simp) ?_
        refine AllReadyH.cons rfl (fun K hK => ?_) (AllReadyH.cons rfl (fun K hK => ?_) AllReadyH.nil)
        · have cr := (one_cell h2.cr).1
          go_simp
          refine hK.out _ _ (h2.s HR.out) (fun hHeld => ?_)
          clear hK K cr
          refine wpAnyH_ready (rs := [4]) (by kernel_rfl) (by simp) ?_
          refine AllReadyH.cons rfl (fun K hK => ?_) AllReadyH.nil
          have h3 := h2.next ((Below.refl _ _).alloc (Nat.le_refl _) (.cells #[.string (bs T)] 9))
          have hsl := Sl.lit w2 [strV T] 9 rfl
          go_simp
          refine hK.out _ _ (h3.s HR.out) (fun hHeld => ?_)
          clear hK K
          refine wpAnyH_ready (rs := [5]) (by kernel_rfl) (by simp) ?_
          refine AllReadyH.cons rfl (fun K hK => ?_) AllReadyH.nil
          refine step_append_sl _ (by rfl) (.tmp 30) (.tmp 34) 60 (by rfl) 9 Tryd.underlying60 str_info rfl (by decide) w.heap.size _ acc (by rfl) h3.own _ _ 1 1 [T] (by rfl) rfl (by simp) hsl (by intro y _; rfl) (by simp; omega) h3.below.size ?_
          intro v' w' hown' hg'
          obtain ⟨A', n', c', rfl⟩ : ∃ A' n' c', v' = .slice A' n' c' := by obtain ⟨A, c, e, _⟩ := OwnV.sl hown'; exact ⟨A, _, c, e⟩
          obtain ⟨c1, c2, h4, ho4⟩ := h3.push hown' hg'
          refine hK.out _ _ (h3.s_grown HR.out hg') (fun hHeld => ?_)
          clear hK K hsl
          refine wpAnyH_ready (rs := [6]) (by kernel_rfl) (by simp) ?_
          refine AllReadyH.cons rfl (fun K hK => ?_) AllReadyH.nil
          go_simp
          refine hK.out _ _ (h4.s HR.out) (fun hHeld => ?_)
          clear hK K c1 c2
          have ho4 : Only (strB rb fb lb v) W (w'.setCell ⟨rb, 0, none⟩ (.slice A' n' c')) := (Only.of_below (below_then (below_then hB0 hb2) ((Below.refl _ _).alloc (Nat.le_refl _) (.cells #[.string (bs T)] 9)))).trans ho4 (fun _ _ s => s)
          obtain ⟨U4, hU4⟩ : ∃ U, U = w'.setCell ⟨rb, 0, none⟩ (.slice A' n' c') := ⟨_, rfl⟩
          refine wpAnyH_done (by kernel_rfl) ⟨rfl, ?_⟩ _
          rw [← hU4] at h4 ho4 ⊢
          clear hU4 hHeld hown' hg' h3 h2 hb2 h0 hB0
          have hm4 := (ho4.block D (Array.getElem?_eq_some_iff.1 hm).1 (fun s => by
            obtain ⟨_, o, p1, q1⟩ := h.cells s
            rw [hm] at p1
            cases p1
            cases q1)).trans hm
          have hcr := (one_cell h4.cr).1
          have HJ := Lib.hid (str_leave h4 (fun y hy => by
            rcases List.mem_append.1 hy with hy | hy
            · exact HOK.out.short y hy
            · rw [List.mem_singleton.1 hy]; exact HTL.out) (by rw [List.length_append, List.length_singleton]; omega) hm4)
          clear h4 ho4 h hm4 hm
          gi_wp2
          refine ⟨trivial, HJ.out.mono ?_⟩
          rintro e w5 ⟨rfl, hb5, hm5⟩
          have H5 := Lib.hid (And.intro hb5 hm5)
          clear hb5 hm5
          gi_wp2
          refine leaves_one H5.out.2 fun W' hW' => ⟨_, results_tmp rfl _ _ _, ?_⟩
          refine ⟨ret_str ?_, H5.out.1.trans (hW'.below H5.out.1.size (fun j e => by have e : j = D := e; omega))⟩
          rw [HTX.out, HTT.out]
        · have h3 := h2.next ((Below.refl _ _).alloc (Nat.le_refl _) (.cells #[.string (bs T)] 9))
          have hsl := Sl.lit w2 [strV T] 9 rfl
          go_simp
          refine hK.out _ _ (h3.s HR.out) (fun hHeld => ?_)
          clear hK K
          refine wpAnyH_ready (rs := [0]) (by kernel_rfl) (by simp) ?_
          refine AllReadyH.cons rfl (fun K hK => ?_) AllReadyH.nil
          have cr := (one_cell h3.cr).1
          go_simp
          refine hK.out _ _ (h3.s HR.out) (fun hHeld => ?_)
          clear hK K cr
          refine wpAnyH_ready (rs := [5]) (by kernel_rfl) (by simp) ?_
          refine AllReadyH.cons rfl (fun K hK => ?_) AllReadyH.nil
          refine step_append_sl _ (by rfl) (.tmp 30) (.tmp 34) 60 (by rfl) 9 Tryd.underlying60 str_info rfl (by decide) w.heap.size _ acc (by rfl) h3.own _ _ 1 1 [T] (by rfl) rfl (by simp) hsl (by intro y _; rfl) (by simp; omega) h3.below.size ?_
          intro v' w' hown' hg'
          obtain ⟨A', n', c', rfl⟩ : ∃ A' n' c', v' = .slice A' n' c' := by obtain ⟨A, c, e, _⟩ := OwnV.sl hown'; exact ⟨A, _, c, e⟩
          obtain ⟨c1, c2, h4, ho4⟩ := h3.push hown' hg'
          refine hK.out _ _ (h3.s_grown HR.out hg') (fun hHeld => ?_)
          clear hK K hsl
          refine wpAnyH_ready (rs := [6]) (by kernel_rfl) (by simp) ?_
          refine AllReadyH.cons rfl (fun K hK => ?_) AllReadyH.nil
          go_simp
          refine hK.out _ _ (h4.s HR.out) (fun hHeld => ?_)
          clear hK K c1 c2
          have ho4 : Only (strB rb fb lb v) W (w'.setCell ⟨rb, 0, none⟩ (.slice A' n' c')) := (Only.of_below (below_then (below_then hB0 hb2) ((Below.refl _ _).alloc (Nat.le_refl _) (.cells #[.string (bs T)] 9)))).trans ho4 (fun _ _ s => s)
          obtain ⟨U4, hU4⟩ : ∃ U, U = w'.setCell ⟨rb, 0, none⟩ (.slice A' n' c') := ⟨_, rfl⟩
          refine wpAnyH_done (by kernel_rfl) ⟨rfl, ?_⟩ _
          rw [← hU4] at h4 ho4 ⊢
          clear hU4 hHeld hown' hg' h3 h2 hb2 h0 hB0
          have hm4 := (ho4.block D (Array.getElem?_eq_some_iff.1 hm).1 (fun s => by
            obtain ⟨_, o, p1, q1⟩ := h.cells s
            rw [hm] at p1
            cases p1
            cases q1)).trans hm
          have hcr := (one_cell h4.cr).1
          have HJ := Lib.hid (str_leave h4 (fun y hy => by
            rcases List.mem_append.1 hy with hy | hy
            · exact HOK.out.short y hy
            · rw [List.mem_singleton.1 hy]; exact HTL.out) (by rw [List.length_append, List.length_singleton]; omega) hm4)
          clear h4 ho4 h hm4 hm
          gi_wp2
          refine ⟨trivial, HJ.out.mono ?_⟩
          rintro e w5 ⟨rfl, hb5, hm5⟩
          have H5 := Lib.hid (And.intro hb5 hm5)
          clear hb5 hm5
          gi_wp2
          refine leaves_one H5.out.2 fun W' hW' => ⟨_, results_tmp rfl _ _ _, ?_⟩
          refine ⟨ret_str ?_, H5.out.1.trans (hW'.below H5.out.1.size (fun j e => by have e : j = D := e; omega))⟩
          rw [HTX.out, HTT.out]
  case body =>
    rintro l pre x W ⟨v, h⟩ hlen
    have HE := Lib.hid (show (pre ++ [x]).map Subtype.val = pre.map Subtype.val ++ [x.1] from by rw [List.map_append, List.map_singleton])
    have hok := rSt_ok (L := pre.map Subtype.val) (fun n hn => by
      obtain ⟨y, _, rfl⟩ := List.mem_map.1 hn
      have := nodes_lt y.2
      rw [HVL.out.len] at this
      exact this)
    have hal := rSt_len (pre.map Subtype.val)
    rw [List.length_map] at hal
    have hx : x.1 < 4096 := by have := nodes_lt x.2; rw [HVL.out.len] at this; exact this
    obtain ⟨L, hL⟩ : ∃ L, L = pre.map Subtype.val := ⟨_, rfl⟩
    rw [← hL] at h HE hok hal
    obtain ⟨acc, o, hst⟩ : ∃ acc o, rSt L = (acc, o) := ⟨_, _, rfl⟩
    rw [hst] at h hok hal
    have HST := Lib.hid hst
    dsimp only at h hal
    clear hS0 hset hsc hbru hL hst
    cases o with
    | none =>
      have h : SSt w rb fb lb v acc (-1) (-1) W := h
      obtain ⟨d0, d1⟩ := one_cell h.cf
      obtain ⟨d2, d3⟩ := one_cell h.cl
      have HH := Lib.hid h
      clear h hok
      gi_wp2
      obtain ⟨h5, q5⟩ := HH.out.setF x.1
      obtain ⟨h6, q6⟩ := h5.setL x.1
      exact str_end HE.out HH.out h6 (((Only.refl).trans q5 (fun _ _ e => .inr (.inl e))).trans q6 (fun _ _ e => .inr (.inr (.inl e)))) hrow hg (by rw [HST.out]; rfl) (by rw [HST.out]; rfl) (by rw [HST.out]; rfl)
    | some fl =>
      obtain ⟨f0, l0⟩ := fl
      obtain ⟨hf, hl⟩ := hok.op f0 l0 rfl
      have h : SSt w rb fb lb v acc (f0 : Int) (l0 : Int) W := h
      obtain ⟨d0, d1⟩ := one_cell h.cf
      obtain ⟨d2, d3⟩ := one_cell h.cl
      by_cases hgt : l0 + 1 < x.1
      · have HS1 := Lib.hid (show (rStep (acc, some (f0, l0)) x.1).1 = acc ++ [runT f0 l0] by unfold rStep; dsimp only; rw [if_pos hgt])
        have HS2 := Lib.hid (show fstI (rStep (acc, some (f0, l0)) x.1) = (x.1 : Int) by unfold rStep; dsimp only; rw [if_pos hgt]; rfl)
        have HS3 := Lib.hid (show lstI (rStep (acc, some (f0, l0)) x.1) = (x.1 : Int) by unfold rStep; dsimp only; rw [if_pos hgt]; rfl)
        have hgt' : (l0 : Int) + 1 < (x.1 : Int) := by omega
        have HF := Lib.hid (fun (X : World) (hX : Ready6 X) => formatRun_any f0 l0 hf hl X hX)
        obtain ⟨T, hT⟩ : ∃ T, T = runT f0 l0 := ⟨_, rfl⟩
        have HTT := Lib.hid hT
        rw [← hT] at HF HS1
        clear hok hT hgt
        gi_wp2
        clear d0 d1 d2 d3
        have h0 : SSt w rb fb lb v acc f0 l0 W.drew := h.next (Below.refl _ _).drew
        have hB0 : Below W.heap.size W W.drew := (Below.refl _ _).drew
        refine wpIn_region_held_round (S := StrS w fb lb f0 l0) (by kernel_rfl) (by kernel_rfl) (h0.s HR.out) (fun hHeld => ?_)
        obtain ⟨U0, hU0⟩ : ∃ U, U = W.drew := ⟨_, rfl⟩
        rw [← hU0] at h0 hB0 hHeld ⊢
        clear hU0
        refine wpAnyH_take (i := 1) (v := .int .i64 f0) rfl (by kernel_rfl) (by kernel_rfl) (by kernel_rfl) (fun _ _ _ h => by cases h.1) (Or.inl ⟨by rfl, ?_⟩) (by assumption) ?_
        · intro w hSw
          obtain ⟨s0, s1, _⟩ := hSw
          go_simp
        show wpAnyH _ _ _ _ _ _ _ (Act.put _ (some 21) _) _
        simp only [Act.put, List.setIfInBounds_toArray, List.set_cons_zero, List.set_cons_succ]
        refine wpAnyH_take (i := 2) (v := .int .i64 l0) rfl (by kernel_rfl) (by kernel_rfl) (by kernel_rfl) (fun _ _ _ h => by cases h.1) (Or.inl ⟨by rfl, ?_⟩) (by assumption) ?_
        · intro w hSw
          obtain ⟨s0, s1, _⟩ := hSw
          go_simp
        show wpAnyH _ _ _ _ _ _ _ (Act.put _ (some 22) _) _
        simp only [Act.put, List.setIfInBounds_toArray, List.set_cons_zero, List.set_cons_succ]
        refine wpAnyH_ready (rs := [0, 3]) (by kernel_rfl) (by simp) ?_
        refine AllReadyH.cons rfl (fun K hK => ?_) (AllReadyH.cons rfl (fun K hK => ?_) AllReadyH.nil)
        · have cr := (one_cell h0.cr).1
          go_simp
          refine hK.out _ _ (h0.s HR.out) (fun hHeld => ?_)
          clear hK K cr
          refine wpAnyH_ready (rs := [3]) (by kernel_rfl) (by simp) ?_
          refine AllReadyH.cons rfl (fun K hK => ?_) AllReadyH.nil
          go_simp
          refine (HF.out _ (h0.s HR.out).ready).mono ?_
          rintro e w2 ⟨rfl, hb2⟩
          have h2 := h0.next hb2
          go_simp
          refine hK.out _ _ (h2.s HR.out) (fun hHeld => ?_)
          clear hK K
          refine wpAnyH_ready (rs := [4]) (by kernel_rfl) (by simp) ?_
          refine AllReadyH.cons rfl (fun K hK => ?_) AllReadyH.nil
          have h3 := h2.next ((Below.refl _ _).alloc (Nat.le_refl _) (.cells #[.string (bs T)] 9))
          have hsl := Sl.lit w2 [strV T] 9 rfl
          go_simp
          refine hK.out _ _ (h3.s HR.out) (fun hHeld => ?_)
          clear hK K
          refine wpAnyH_ready (rs := [5]) (by kernel_rfl) (by simp) ?_
          refine AllReadyH.cons rfl (fun K hK => ?_) AllReadyH.nil
          refine step_append_sl _ (by rfl) (.tmp 20) (.tmp 24) 60 (by rfl) 9 Tryd.underlying60 str_info rfl (by decide) w.heap.size _ acc (by rfl) h3.own _ _ 1 1 [T] (by rfl) rfl (by simp) hsl (by intro y _; rfl) (by simp; omega) h3.below.size ?_
          intro v' w' hown' hg'
          obtain ⟨A', n', c', rfl⟩ : ∃ A' n' c', v' = .slice A' n' c' := by obtain ⟨A, c, e, _⟩ := OwnV.sl hown'; exact ⟨A, _, c, e⟩
          obtain ⟨c1, c2, h4, ho4⟩ := h3.push hown' hg'
          refine hK.out _ _ (h3.s_grown HR.out hg') (fun hHeld => ?_)
          clear hK K hsl
          refine wpAnyH_ready (rs := [6]) (by kernel_rfl) (by simp) ?_
          refine AllReadyH.cons rfl (fun K hK => ?_) AllReadyH.nil
          go_simp
          refine hK.out _ _ (h4.s HR.out) (fun hHeld => ?_)
          clear hK K c1 c2
          have ho4 : Only (strB rb fb lb v) W (w'.setCell ⟨rb, 0, none⟩ (.slice A' n' c')) := (Only.of_below (below_then (below_then hB0 hb2) ((Below.refl _ _).alloc (Nat.le_refl _) (.cells #[.string (bs T)] 9)))).trans ho4 (fun _ _ s => s)
          obtain ⟨U4, hU4⟩ : ∃ U, U = w'.setCell ⟨rb, 0, none⟩ (.slice A' n' c') := ⟨_, rfl⟩
          refine wpAnyH_done (by kernel_rfl) ⟨rfl, ?_⟩ _
          rw [← hU4] at h4 ho4 ⊢
          clear hU4 hHeld hown' hg' h3 h2 hb2 h0 hB0
          obtain ⟨d0, d1⟩ := one_cell h4.cf
          obtain ⟨d2, d3⟩ := one_cell h4.cl
          have HH := Lib.hid (And.intro h4 ho4)
          have HHH := Lib.hid h
          clear h4 ho4 h
          gi_wp2
          obtain ⟨h4, ho4⟩ := HH.out
          obtain ⟨h5, o5⟩ := h4.setF x.1
          obtain ⟨h6, o6⟩ := h5.setL x.1
          exact str_end HE.out HHH.out h6 ((ho4.trans o5 (fun _ _ e => .inr (.inl e))).trans o6 (fun _ _ e => .inr (.inr (.inl e)))) hrow hg (by rw [HST.out]; exact HS1.out) (by rw [HST.out]; exact HS2.out) (by rw [HST.out]; exact HS3.out)
        · go_simp
          refine (HF.out _ (h0.s HR.out).ready).mono ?_
          rintro e w2 ⟨rfl, hb2⟩
          have h2 := h0.next hb2
          go_simp
          refine hK.out _ _ (h2.s HR.out) (fun hHeld => ?_)
          clear hK K
          refine wpAnyH_ready (rs := [0, 4]) (by kernel_rfl) (by simp) ?_
          refine AllReadyH.cons rfl (fun K hK => ?_) (AllReadyH.cons rfl (fun K hK => ?_) AllReadyH.nil)
          · have cr := (one_cell h2.cr).1
            go_simp
            refine hK.out _ _ (h2.s HR.out) (fun hHeld => ?_)
            clear hK K cr
            refine wpAnyH_ready (rs := [4]) (by kernel_rfl) (by simp) ?_
            refine AllReadyH.cons rfl (fun K hK => ?_) AllReadyH.nil
            have h3 := h2.next ((Below.refl _ _).alloc (Nat.le_refl _) (.cells #[.string (bs T)] 9))
            have hsl := Sl.lit w2 [strV T] 9 rfl
            go_simp
            refine hK.out _ _ (h3.s HR.out) (fun hHeld => ?_)
            clear hK K
            refine wpAnyH_ready (rs := [5]) (by kernel_rfl) (by simp) ?_
            refine AllReadyH.cons rfl (fun K hK => ?_) AllReadyH.nil
            refine step_append_sl _ (by rfl) (.tmp 20) (.tmp 24) 60 (by rfl) 9 Tryd.underlying60 str_info rfl (by decide) w.heap.size _ acc (by rfl) h3.own _ _ 1 1 [T] (by rfl) rfl (by simp) hsl (by intro y _; rfl) (by simp; omega) h3.below.size ?_
            intro v' w' hown' hg'
            obtain ⟨A', n', c', rfl⟩ : ∃ A' n' c', v' = .slice A' n' c' := by obtain ⟨A, c, e, _⟩ := OwnV.sl hown'; exact ⟨A, _, c, e⟩
            obtain ⟨c1, c2, h4, ho4⟩ := h3.push hown' hg'
            refine hK.out _ _ (h3.s_grown HR.out hg') (fun hHeld => ?_)
            clear hK K hsl
            refine wpAnyH_ready (rs := [6]) (by kernel_rfl) (by simp) ?_
            refine AllReadyH.cons rfl (fun K hK => ?_) AllReadyH.nil
            go_simp
            refine hK.out _ _ (h4.s HR.out) (fun hHeld => ?_)
            clear hK K c1 c2
            have ho4 : Only (strB rb fb lb v) W (w'.setCell ⟨rb, 0, none⟩ (.slice A' n' c')) := (Only.of_below (below_then (below_then hB0 hb2) ((Below.refl _ _).alloc (Nat.le_refl _) (.cells #[.string (bs T)] 9)))).trans ho4 (fun _ _ s => s)
            obtain ⟨U4, hU4⟩ : ∃ U, U = w'.setCell ⟨rb, 0, none⟩ (.slice A' n' c') := ⟨_, rfl⟩
            refine wpAnyH_done (by kernel_rfl) ⟨rfl, ?_⟩ _
            rw [← hU4] at h4 ho4 ⊢
            clear hU4 hHeld hown' hg' h3 h2 hb2 h0 hB0
            obtain ⟨d0, d1⟩ := one_cell h4.cf
            obtain ⟨d2, d3⟩ := one_cell h4.cl
            have HH := Lib.hid (And.intro h4 ho4)
            have HHH := Lib.hid h
            clear h4 ho4 h
            gi_wp2
            obtain ⟨h4, ho4⟩ := HH.out
            obtain ⟨h5, o5⟩ := h4.setF x.1
            obtain ⟨h6, o6⟩ := h5.setL x.1
            exact str_end HE.out HHH.out h6 ((ho4.trans o5 (fun _ _ e => .inr (.inl e))).trans o6 (fun _ _ e => .inr (.inr (.inl e)))) hrow hg (by rw [HST.out]; exact HS1.out) (by rw [HST.out]; exact HS2.out) (by rw [HST.out]; exact HS3.out)
          · have h3 := h2.next ((Below.refl _ _).alloc (Nat.le_refl _) (.cells #[.string (bs T)] 9))
            have hsl := Sl.lit w2 [strV T] 9 rfl
            go_simp
            refine hK.out _ _ (h3.s HR.out) (fun hHeld => ?_)
            clear hK K
            refine wpAnyH_ready (rs := [0]) (by kernel_rfl) (by simp) ?_
            refine AllReadyH.cons rfl (fun K hK => ?_) AllReadyH.nil
            have cr := (one_cell h3.cr).1
            go_simp
            refine hK.out _ _ (h3.s HR.out) (fun hHeld => ?_)
            clear hK K cr
            refine wpAnyH_ready (rs := [5]) (by kernel_rfl) (by simp) ?_
            refine AllReadyH.cons rfl (fun K hK => ?_) AllReadyH.nil
            refine step_append_sl _ (by rfl) (.tmp 20) (.tmp 24) 60 (by rfl) 9 Tryd.underlying60 str_info rfl (by decide) w.heap.size _ acc (by rfl) h3.own _ _ 1 1 [T] (by rfl) rfl (by simp) hsl (by intro y _; rfl) (by simp; omega) h3.below.size ?_
            intro v' w' hown' hg'
            obtain ⟨A', n', c', rfl⟩ : ∃ A' n' c', v' = .slice A' n' c' := by obtain ⟨A, c, e, _⟩ := OwnV.sl hown'; exact ⟨A, _, c, e⟩
            obtain ⟨c1, c2, h4, ho4⟩ := h3.push hown' hg'
            refine hK.out _ _ (h3.s_grown HR.out hg') (fun hHeld => ?_)
            clear hK K hsl
            refine wpAnyH_ready (rs := [6]) (by kernel_rfl) (by simp) ?_
            refine AllReadyH.cons rfl (fun K hK => ?_) AllReadyH.nil
            go_simp
            refine hK.out _ _ (h4.s HR.out) (fun hHeld => ?_)
            clear hK K c1 c2
            have ho4 : Only (strB rb fb lb v) W (w'.setCell ⟨rb, 0, none⟩ (.slice A' n' c')) := (Only.of_below (below_then (below_then hB0 hb2) ((Below.refl _ _).alloc (Nat.le_refl _) (.cells #[.string (bs T)] 9)))).trans ho4 (fun _ _ s => s)
            obtain ⟨U4, hU4⟩ : ∃ U, U = w'.setCell ⟨rb, 0, none⟩ (.slice A' n' c') := ⟨_, rfl⟩
            refine wpAnyH_done (by kernel_rfl) ⟨rfl, ?_⟩ _
            rw [← hU4] at h4 ho4 ⊢
            clear hU4 hHeld hown' hg' h3 h2 hb2 h0 hB0
            obtain ⟨d0, d1⟩ := one_cell h4.cf
            obtain ⟨d2, d3⟩ := one_cell h4.cl
            have HH := Lib.hid (And.intro h4 ho4)
            have HHH := Lib.hid h
            clear h4 ho4 h
            gi_wp2
            obtain ⟨h4, ho4⟩ := HH.out
            obtain ⟨h5, o5⟩ := h4.setF x.1
            obtain ⟨h6, o6⟩ := h5.setL x.1
            exact str_end HE.out HHH.out h6 ((ho4.trans o5 (fun _ _ e => .inr (.inl e))).trans o6 (fun _ _ e => .inr (.inr (.inl e)))) hrow hg (by rw [HST.out]; exact HS1.out) (by rw [HST.out]; exact HS2.out) (by rw [HST.out]; exact HS3.out)
      · have HS1 := Lib.hid (show (rStep (acc, some (f0, l0)) x.1).1 = acc by unfold rStep; dsimp only; rw [if_neg hgt])
        have HS2 := Lib.hid (show fstI (rStep (acc, some (f0, l0)) x.1) = (f0 : Int) by unfold rStep; dsimp only; rw [if_neg hgt]; rfl)
        have HS3 := Lib.hid (show lstI (rStep (acc, some (f0, l0)) x.1) = (x.1 : Int) by unfold rStep; dsimp only; rw [if_neg hgt]; rfl)
        have hgt' : ¬ (l0 : Int) + 1 < (x.1 : Int) := by omega
        have HH := Lib.hid h
        clear h hok hgt
        gi_wp2
        obtain ⟨h6, q6⟩ := HH.out.setL x.1
        exact str_end HE.out HH.out h6 ((Only.refl).trans q6 (fun _ _ e => .inr (.inr (.inl e)))) hrow hg (by rw [HST.out]; exact HS1.out) (by rw [HST.out]; exact HS2.out) (by rw [HST.out]; exact HS3.out)
end Go.Proofs.YtalfjcamjdmdjaaDoor
