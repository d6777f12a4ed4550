/-
  nodeset: List (the nodes in ascending order).
-/
import Derived.Test.YtalfjcamjdmdjaaDoorEach
import Derived.Test.YtalfjcamjdmdjaaDoorMarks
import Derived.RangeFuncWrites
namespace Go.Proofs.YtalfjcamjdmdjaaDoor
open Go.RowKit Go.Shelf
attribute [local go_sem] Oper.semAt_some

abbrev nodeV (n : Nat) : Value := .int .i64 (n : Int)
/-- the state of List's loop: the row has its room from the start. -/
structure LI (w : World) (lb g cap : Nat) (L : List Nat) (W : World) : Prop where
  cell : W.cell? ⟨lb, 0, none⟩ = some (.slice (some ⟨g, 0, none⟩) L.length cap)
  froz : W.frozen? ⟨lb, 0, none⟩ = false
  own : OwnV nodeV W w.heap.size 3 (.slice (some ⟨g, 0, none⟩) L.length cap) L
  below : Below w.heap.size w W
  low : w.heap.size ≤ lb ∧ lb ≠ g
section
variable {w W W' : World} {lb g cap : Nat} {L : List Nat}
theorem LI.lt (h : LI w lb g cap L W) : lb < W.heap.size ∧ g < W.heap.size ∧ w.heap.size ≤ g := by
  obtain ⟨o, h1, _⟩ := cells_of_cell h.cell
  obtain ⟨h3, h2⟩ := h.own.lt g rfl
  exact ⟨(Array.getElem?_eq_some_iff.1 h1).1, h2, h3⟩
theorem LI.only (h : LI w lb g cap L W) {S : Nat → Prop} (ho : Only S W W') (h1 : ¬ S lb) (h2 : ¬ S g) (hb : Below w.heap.size W W') : LI w lb g cap L W' := by
  obtain ⟨l1, l2, l3⟩ := h.lt
  exact ⟨(ho.cell (a := ⟨lb, 0, none⟩) l1 h1).trans h.cell, (ho.frozen (a := ⟨lb, 0, none⟩) l1 h1).trans h.froz, ho.row h.own (fun k e => by cases e; exact h2), h.below.trans hb, h.low⟩
theorem LI.cells (h : LI w lb g cap L W) : (∃ o, W.heap[lb]? = some o ∧ o.isCells = true) ∧ ∃ o, W.heap[g]? = some o ∧ o.isCells = true := by
  refine ⟨cells_of_cell h.cell, ?_⟩
  rcases h.own.2 with ⟨e, _⟩ | ⟨g', cap', cur, e, hb, hgg, _⟩
  · cases e
  · cases e
    exact ⟨_, hgg, rfl⟩
theorem LI.grown (h : LI w lb g cap L W) {B : Nat} (hB : w.heap.size ≤ B) {row : Option Nat} (hg : W.grownBy W' row) (hr : ∀ r, row = some r → B ≤ r ∧ ∃ o : Obj, W.heap[r]? = some o ∧ o.isCells = false) : LI w lb g cap L W' := by
  obtain ⟨⟨o1, p1, q1⟩, o2, p2, q2⟩ := h.cells
  refine h.only (S := fun j => row = some j) (Only.of_grown hg (fun j e => e)) (fun e => ?_) (fun e => ?_) ((Below.refl _ _).grown hg h.below.size (fun k e => Nat.le_trans hB (hr k e).1))
  · obtain ⟨_, o, a, b⟩ := hr _ e
    rw [p1] at a
    cases a
    rw [q1] at b
    cases b
  · obtain ⟨_, o, a, b⟩ := hr _ e
    rw [p2] at a
    cases a
    rw [q2] at b
    cases b
theorem LI.push (h : LI w lb g cap L W) (x : Nat) {o : Obj} (hown : W'.ownsRow w.heap.size 3 1 (.slice (some ⟨g, 0, none⟩) (L.length + 1) cap) (L.length + 1) (L.map nodeV ++ [nodeV x])) (hgrow : (W.alloc o).grownBy W' (some g)) :
    W'.cell? ⟨lb, 0, none⟩ = some (.slice (some ⟨g, 0, none⟩) L.length cap) ∧ W'.frozen? ⟨lb, 0, none⟩ = false ∧ Only (fun b => b = lb ∨ b = g) W (W'.setCell ⟨lb, 0, none⟩ (.slice (some ⟨g, 0, none⟩) (L.length + 1) cap)) ∧
      LI w lb g cap (L ++ [x]) (W'.setCell ⟨lb, 0, none⟩ (.slice (some ⟨g, 0, none⟩) (L.length + 1) cap)) := by
  obtain ⟨l1, l2, l3⟩ := h.lt
  have ho : Only (fun b => b = g) W W' := (Only.of_below ((Below.refl _ _).alloc (Nat.le_refl _) o)).trans (Only.of_grown hgrow (fun j e => by cases e; rfl)) (fun _ _ s => s)
  have c := (ho.cell (a := ⟨lb, 0, none⟩) l1 (fun e => h.low.2 e)).trans h.cell
  have f := (ho.frozen (a := ⟨lb, 0, none⟩) l1 (fun e => h.low.2 e)).trans h.froz
  have hb := ho.below h.below.size (fun j e => by rw [e]; exact l3)
  refine ⟨c, f, (ho.mono fun j _ e => .inr e).setCell (a := ⟨lb, 0, none⟩) (fun _ => .inl rfl) _, ?_, ?_, ?_, ?_, h.low⟩
  · rw [List.length_append, List.length_singleton]
    exact World.cell?_setCell_same _ _ _ c
  · rw [World.frozen?_setCell]
    exact f
  · unfold OwnV
    rw [List.length_append, List.length_singleton, List.map_append, List.map_singleton]
    exact ownsRow_setCell_other hown (a := ⟨lb, 0, none⟩) (fun e => by cases e; exact h.low.2 rfl) _
  · exact h.below.trans (hb.setCell (p := ⟨lb, 0, none⟩) h.low.1 _)
end
/-- what List returns. -/
def RetList (w : World) (L : List Nat) (e : Ending) (w' : World) : Prop := ∃ v, e = .returned v ∧ OwnV nodeV w' w.heap.size 3 v L ∧ Below w.heap.size w w'
theorem nodes_leN {V : List Nat} (hV : Wds V) : popW V ≤ 4096 := by
  have := popW_le V
  rw [hV.len] at this
  exact this
theorem int_info : (Tryd.prog.info? 3).map (fun i => (i.zero, i.size, i.bytes)) = some (some (.int .i64 0), 1, 8) := by kernel_rfl
set_option maxRecDepth 100000 in
set_option maxHeartbeats 2000000 in
theorem list_any (w : World) (p : Option Addr) (V : List Nat) (h : SetAt w p V) (hT : BruAt w) (hg : 0 < w.heap.size) : Calls Tryd.prog 22 #[.agg #[.pointer p]] w (RetList w (nodesW V)) := by
  refine (callsIn_wide (n := 4)).1 ?_
  refine callsIn_of_wp_marks Tryd.func22 rfl trivial ?_ rfl
  simp only [Tryd.ntmps22, List.size_toArray, List.length_cons, List.length_nil, Nat.reduceAdd, Nat.reduceSub, Array.replicate_succ, Array.replicate_zero, List.push_toArray, List.append_toArray, List.nil_append, List.cons_append]
  obtain ⟨w1, hw1⟩ : ∃ w1, w1 = w.alloc (.cells #[.pointer p] 30) := ⟨_, rfl⟩
  have hb1 : Below w.heap.size w w1 := by rw [hw1]; exact (Below.refl _ _).alloc (Nat.le_refl _) _
  have hz1 : w1.heap.size = w.heap.size + 1 := by rw [hw1]; simp
  have hc1 : w1.cell? ⟨w.heap.size, 0, none⟩ = some (.pointer p) := by rw [hw1]; exact (new_cell w _ _).1
  obtain ⟨i0, hi, hz, hs, hby⟩ := info_parts int_info
  have hV := h.1
  have hpl := nodes_leN hV
  have hln := nodes_len V
  have HS1 := Lib.hid (h.below hb1)
  have HH := Lib.hid (And.intro h (And.intro hT (And.intro hg hb1)))
  clear h hT hV
  gi_wp2
  rw [← hw1]
  refine ⟨trivial, (callsIn_wide.2 (len_any _ p V HS1.out)).mono ?_⟩
  rintro e w2 ⟨rfl, hb2⟩
  have hc2 := (hb2.cell (p := ⟨w.heap.size, 0, none⟩) (by rw [hz1]; exact Nat.lt_succ_self _)).trans hc1
  have hz2 := hb2.size
  clear hc1 HS1 hw1
  gi_wp2_with (gi_at_make; refine wpListIn_make_own _ rfl _ _ 22 rfl w.heap.size 3 i0 (.int .i64 0) 1 Tryd.underlying22 hi hz hs .i64 .i64 _ (popW V) rfl rfl rfl (by rw [hby]; omega) (by unfold maxLen; omega) (by omega) ?_; intro w3 hown hgrow; have hc3 : ∀ o, (w3.alloc o).cell? ⟨w.heap.size, 0, none⟩ = some (.pointer p) := fun o => old_cell o (cell_kept hc2 hgrow (fun r e => by cases e)); have hz3 := hgrow.size)
  refine ⟨trivial, (callsIn_wide.2 (each_any _ p)).mono ?_⟩
  rintro e w' ⟨rfl, rfl⟩
  gi_wp2
  obtain ⟨h, hT, hg, hb1⟩ := HH.out
  have hb3 : Below w.heap.size w w3 := hb1.trans ((hb2.mono (by omega)).grown hgrow (by omega) (fun k e => by cases e))
  have hL0 : LI w w3.heap.size w2.heap.size (popW V) [] ((w3.alloc (.cells #[.slice (some ⟨w2.heap.size, 0, none⟩) 0 (popW V)] 22)).alloc (.cells #[.pointer p] 30)) := by
    refine ⟨old_cell _ (new_cell w3 _ _).1, ?_, ?_, (hb3.alloc hb3.size _).alloc (by simp; omega) _, by omega, ?_⟩
    · rw [(((Below.refl _ _).alloc (Nat.le_refl _) (.cells #[.pointer p] 30))).frozen (p := ⟨w3.heap.size, 0, none⟩) (by simp)]
      exact (new_cell w3 _ _).2
    · exact (World.ownsRow.alloc hown _).alloc _
    · have : w2.heap.size < w3.heap.size := (hown.lt w2.heap.size rfl).2
      omega
  have hsc := (new_cell (w3.alloc (.cells #[.slice (some ⟨w2.heap.size, 0, none⟩) 0 (popW V)] 22)) (.pointer p) 30).1
  have hB0 : Below w.heap.size w ((w3.alloc (.cells #[.slice (some ⟨w2.heap.size, 0, none⟩) 0 (popW V)] 22)).alloc (.cells #[.pointer p] 30)) := hL0.below
  rw [World.size_alloc] at hsc
  have hW0z : ((w3.alloc (.cells #[.slice (some ⟨w2.heap.size, 0, none⟩) 0 (popW V)] 22)).alloc (.cells #[.pointer p] 30)).heap.size = w3.heap.size + 1 + 1 := by simp
  obtain ⟨W0, hW0⟩ : ∃ W0, W0 = (w3.alloc (.cells #[.slice (some ⟨w2.heap.size, 0, none⟩) 0 (popW V)] 22)).alloc (.cells #[.pointer p] 30) := ⟨_, rfl⟩
  obtain ⟨g, hgg⟩ : ∃ g, g = w2.heap.size := ⟨_, rfl⟩
  obtain ⟨lb, hlb⟩ : ∃ b, b = w3.heap.size := ⟨_, rfl⟩
  obtain ⟨cap, hcap⟩ : ∃ c, c = popW V := ⟨_, rfl⟩
  rw [← hgg, ← hlb, ← hcap] at hL0 hsc hW0z
  rw [← hgg, ← hcap] at hW0 hB0
  rw [← hW0] at hL0 hsc hB0 hW0z
  rw [← hgg, ← hlb, ← hcap, ← hW0]
  have hset := h.below hB0
  have hbru : BruAt W0 := fun j hj => (hB0.cell (p := ⟨0, j, none⟩) hg).trans (hT j hj)
  have hrow := rowOf_lt h hg
  rw [← hcap] at hpl hln
  clear h hT hb1 hb2 hb3 hown hgrow hc3 hc2 hW0 HH hcap hi hz hs hby hz1 hz2 hz3 hgg hlb
  have HL := Lib.hid (And.intro hrow hg)
  refine wpIn_rangeFunc_ownG rfl (by omega) (gf := 36) (lb := #[.pointer (some ⟨lb + 1, 0, none⟩)]) rfl trivial (enters_of Tryd.func36 (by kernel_rfl) rfl)
    (each_stops 3 (by omega) (lb + 1) p V W0 hset hsc (by omega) hbru (Nat.lt_of_lt_of_le hg hB0.size))
    KeepTwo.trans (fun W l o o' hl _ _ _ => KeepTwo.put (B := W0.heap.size) (Nat.lt_of_lt_of_le hrow hB0.size) W l o' hl) (Below.refl _ _) (fun _ => rfl)
    (fun (pre : List {z : Nat // z ∈ nodesW V}) W => LI w lb g cap (pre.map Subtype.val) W) (fun _ _ _ => False)
    (fun s A B row hs hgr hr => hs.grown hB0.size hgr hr) (fun _ _ _ _ _ hs _ _ => hs) hL0
    (fun y => { tmps := #[.agg #[.pointer p], .pointer (some ⟨w.heap.size, 0, none⟩), .slice none 0 0, .pointer (some ⟨lb, 0, none⟩), .int .i64 y.1, .agg #[.pointer p], .int .i64 cap, .slice (some ⟨g, 0, none⟩) 0 cap, .agg #[.pointer p], .func (.func 36) #[] #[.pointer (some ⟨lb + 1, 0, none⟩)], .int .i64 y.1, undef, undef, undef, undef, undef], defers := [] }) ?assign ?body ?done ?stop
  case assign =>
    intro l y W K hK
    gi_wp2
    exact hK
  case stop =>
    rintro D c pre W _ _ h _
    exact h.elim
  case done =>
    rintro D xs W hD rfl h hm
    have hc := h.cell
    have HI := Lib.hid h
    clear h
    gi_wp2
    refine leaves_one hm fun W' hW' => ⟨_, results_tmp rfl _ _ _, ?_⟩
    have h := HI.out
    obtain ⟨l1, l2, l3⟩ := h.lt
    obtain ⟨o, p2, q2⟩ := h.cells.2
    have hne : D ≠ g := fun e => by
      rw [e, p2] at hm
      cases hm
      cases q2
    have hwD : w.heap.size ≤ D := Nat.le_trans hB0.size hD
    refine ⟨_, rfl, ?_, h.below.trans (hW'.below h.below.size (fun j e => by have e : j = D := e; omega))⟩
    have := hW'.row h.own (fun k e => by cases e; exact fun q => hne q.symm)
    rw [List.attach_map_subtype_val] at this
    show OwnV nodeV W' w.heap.size 3 (.slice (some ⟨g, 0, none⟩) cap cap) (nodesW V)
    rw [hln] at this
    unfold OwnV
    rw [hln]
    exact this
  case body =>
    intro l pre x W h hlen
    obtain ⟨i0, hi, hz, hs, hby⟩ := info_parts int_info
    have hlen' : (pre.map Subtype.val).length + 1 ≤ cap := by rw [List.length_map]; omega
    have HE := Lib.hid (show (pre ++ [x]).map Subtype.val = pre.map Subtype.val ++ [x.1] from by rw [List.map_append, List.map_singleton])
    obtain ⟨L, hL⟩ : ∃ L, L = pre.map Subtype.val := ⟨_, rfl⟩
    rw [← hL] at h hlen' HE
    have hc := h.cell
    have HI := Lib.hid h
    clear h hlen hL
    gi_wp2_with (refine wpListIn_append_fits _ rfl _ _ 22 rfl w.heap.size 3 i0 1 Tryd.underlying22 hi hs g L.length cap _ rfl (World.ownsRow.alloc HI.out.own _) ⟨W.heap.size, 0, none⟩ 1 1 [nodeV x.1] rfl rfl (cell_one_new _ _ _) (by intro u hu; rcases List.mem_singleton.1 hu with rfl; rfl) hlen' ?_; intro w' hown' hgrow'; obtain ⟨c1, c2, ho, hLI⟩ := LI.push HI.out x.1 hown' hgrow')
    have h := HI.out
    obtain ⟨l1, l2, l3⟩ := h.lt
    obtain ⟨k1, k2⟩ := HL.out
    have hWz := h.below.size
    refine ⟨keeps_from ho (fun j s _ => ?_), KeepTwo.only ho (by omega) (by omega) ?_ ?_, by dsimp only; rw [HE.out]; exact hLI⟩
    · rcases s with e | e
      · rw [e]; exact h.cells.1
      · rw [e]; exact h.cells.2
    · have := h.low.1
      rintro (e | e) <;> omega
    · have := h.low.1
      rintro (e | e) <;> omega
end Go.Proofs.YtalfjcamjdmdjaaDoor
