/-
  samaritanlaw02.NodesetEach: the walk.
-/
import Derived.Test.YtalfjcamjdmdjaaDoorSetLaw
import Derived.Test.YtalfjcamjdmdjaaDoorStr
namespace Go.Proofs.YtalfjcamjdmdjaaDoor
open Go.RowKit Go.Shelf
attribute [local go_sem] Oper.semAt_some

/-- the variable gb holds the slice v of the list L; only what is new since W0 has changed. -/
structure EI (W0 : World) (gb : Nat) (v : Value) (L : List Nat) (W : World) : Prop where
  cell : W.cell? ⟨gb, 0, none⟩ = some v
  froz : W.frozen? ⟨gb, 0, none⟩ = false
  own : OwnV nodeV W W0.heap.size 3 v L
  below : Below W0.heap.size W0 W
  low : W0.heap.size ≤ gb
  ne : v.ownBlock ≠ some gb
section
variable {W0 W W' : World} {gb : Nat} {v v' : Value} {L : List Nat}
theorem EI.lt (h : EI W0 gb v L W) : gb < W.heap.size := by
  obtain ⟨o, h1, _⟩ := cells_of_cell h.cell
  exact (Array.getElem?_eq_some_iff.1 h1).1
theorem own_block_cells {e : TypeId} {base : Nat} {L : List Nat} (h : OwnV nodeV W base e v L) {g : Nat} (hg : v.ownBlock = some g) : base ≤ g ∧ g < W.heap.size ∧ ∃ o, W.heap[g]? = some o ∧ o.isCells = true := by
  rcases h.2 with ⟨e, _⟩ | ⟨g', cap', cur, e, hb, hgg, _⟩
  · rw [e] at hg; cases hg
  · rw [e] at hg
    cases hg
    exact ⟨hb, (Array.getElem?_eq_some_iff.1 hgg).1, _, hgg, rfl⟩
theorem EI.only (h : EI W0 gb v L W) {S : Nat → Prop} (ho : Only S W W') (h1 : ¬ S gb) (h2 : ∀ g, v.ownBlock = some g → ¬ S g) (hb : Below W0.heap.size W W') : EI W0 gb v L W' :=
  ⟨(ho.cell (a := ⟨gb, 0, none⟩) h.lt h1).trans h.cell, (ho.frozen (a := ⟨gb, 0, none⟩) h.lt h1).trans h.froz, ho.row h.own h2, h.below.trans hb, h.low, h.ne⟩
theorem EI.grown (h : EI W0 gb v L W) {B : Nat} (hB : W0.heap.size ≤ B) {row : Option Nat} (hg : W.grownBy W' row) (hr : ∀ r, row = some r → B ≤ r ∧ ∃ o : Obj, W.heap[r]? = some o ∧ o.isCells = false) : EI W0 gb v L W' := by
  obtain ⟨o1, p1, q1⟩ := cells_of_cell h.cell
  refine h.only (S := fun j => row = some j) (Only.of_grown hg (fun j e => e)) (fun e => ?_) (fun g hv e => ?_) ((Below.refl _ _).grown hg h.below.size (fun k e => Nat.le_trans hB (hr k e).1))
  · obtain ⟨_, o, a, b⟩ := hr _ e
    rw [p1] at a
    cases a
    rw [q1] at b
    cases b
  · obtain ⟨_, o, a, b⟩ := hr _ e
    obtain ⟨_, _, o2, p2, q2⟩ := own_block_cells h.own hv
    rw [p2] at a
    cases a
    rw [q2] at b
    cases b
theorem EI.slice (h : EI W0 gb v L W) : ∃ A c, v = .slice A L.length c := by
  obtain ⟨A, c, e, _⟩ := h.own.sl
  exact ⟨A, c, e⟩
theorem EI.push (h : EI W0 gb v L W) (x : Nat) {o : Obj} (hown : W'.ownsRow W0.heap.size 3 1 v' (L.length + 1) (L.map nodeV ++ [nodeV x])) (hgrow : (W.alloc o).grownBy W' v.ownBlock) :
    W'.cell? ⟨gb, 0, none⟩ = some v ∧ W'.frozen? ⟨gb, 0, none⟩ = false ∧ Only (fun b => b = gb ∨ v.ownBlock = some b) W (W'.setCell ⟨gb, 0, none⟩ v') ∧ EI W0 gb v' (L ++ [x]) (W'.setCell ⟨gb, 0, none⟩ v') ∧ ∀ a : Addr, a.block < W0.heap.size → W'.cell? a = W.cell? a := by
  have hl := h.lt
  have ho : Only (fun b => v.ownBlock = some b) W W' := (Only.of_below ((Below.refl _ _).alloc (Nat.le_refl _) o)).trans (Only.of_grown hgrow (fun j e => e)) (fun _ _ s => s)
  have c := (ho.cell (a := ⟨gb, 0, none⟩) hl (fun e => h.ne e)).trans h.cell
  have f := (ho.frozen (a := ⟨gb, 0, none⟩) hl (fun e => h.ne e)).trans h.froz
  have hb := ho.below h.below.size (fun j e => (own_block_cells h.own e).1)
  have hne : v'.ownBlock ≠ some gb := by
    intro e
    have hrow : OwnV nodeV W' W0.heap.size 3 v' (L ++ [x]) := by
      unfold OwnV
      rw [List.length_append, List.length_singleton, List.map_append, List.map_singleton]
      exact hown
    obtain ⟨y, hy⟩ : ∃ y, (L ++ [x])[0]? = some y := ⟨_, List.getElem?_eq_getElem (by rw [List.length_append]; simp)⟩
    obtain ⟨g, c', ev, _, _, hc, _⟩ := hrow.form hy
    rw [ev] at e
    cases e
    obtain ⟨A, c0, e0⟩ := h.slice
    rw [c, e0] at hc
    cases hc
  refine ⟨c, f, (ho.mono fun j _ e => .inr e).setCell (a := ⟨gb, 0, none⟩) (fun _ => .inl rfl) _, ⟨World.cell?_setCell_same _ _ _ c, ?_, ?_, ?_, h.low, hne⟩, fun a ha => ho.cell (Nat.lt_of_lt_of_le ha h.below.size) (fun e => by have := (own_block_cells h.own e).1; omega)⟩
  · rw [World.frozen?_setCell]
    exact f
  · unfold OwnV
    rw [List.length_append, List.length_singleton, List.map_append, List.map_singleton]
    exact ownsRow_setCell_other hown (a := ⟨gb, 0, none⟩) hne _
  · exact h.below.trans (hb.setCell (p := ⟨gb, 0, none⟩) h.low _)
end
/-- the loops that are over have left their marks; else only what is new since W0 has changed. -/
structure LH (W0 : World) (Ds : List Nat) (W : World) : Prop where
  below : Below W0.heap.size W0 W
  marks : ∀ x ∈ Ds, W.heap[x]? = some (.deferred (some []))
  nodup : Ds.Nodup
  low : ∀ x ∈ Ds, W0.heap.size ≤ x
section
variable {W0 W W' : World} {Ds : List Nat}
theorem LH.start : LH W0 [] W0 := ⟨Below.refl _ _, by simp, by simp, by simp⟩
theorem LH.lt (h : LH W0 Ds W) : ∀ x ∈ Ds, x < W.heap.size := fun x hx => (Array.getElem?_eq_some_iff.1 (h.marks x hx)).1
theorem LH.next (h : LH W0 Ds W) (hb : Below W.heap.size W W') : LH W0 Ds W' :=
  ⟨h.below.trans (hb.mono h.below.size), fun x hx => (hb.block x (h.lt x hx)).trans (h.marks x hx), h.nodup, h.low⟩
theorem LH.mark (h : LH W0 Ds W) {B D : Nat} (hB : ∀ x ∈ Ds, x < B) (hW : W0.heap.size ≤ B) (hD : B ≤ D) (hm : W.heap[D]? = some (.deferred (some []))) : LH W0 (D :: Ds) W := by
  refine ⟨h.below, fun x hx => ?_, List.nodup_cons.2 ⟨fun hd => ?_, h.nodup⟩, fun x hx => ?_⟩
  · rcases List.mem_cons.1 hx with rfl | hx
    · exact hm
    · exact h.marks x hx
  · have := hB D hd
    omega
  · rcases List.mem_cons.1 hx with rfl | hx
    · omega
    · exact h.low x hx
theorem LH.out (h : LH W0 Ds W) (ho : Only (fun k => k ∈ Ds) W W') : Below W0.heap.size W0 W' := h.below.trans (ho.below h.below.size h.low)
end
/-- .. some slice. -/
def EX (W0 : World) (gb : Nat) (L : List Nat) (W : World) : Prop := ∃ v, EI W0 gb v L W
theorem own_caps {w : World} {base : Nat} {e : TypeId} {A : Option Addr} {n c : Nat} {zs : List Int} (h : OwnI w base e (.slice A n c) zs) : n ≤ c := by
  rcases h.2 with ⟨e1, e2⟩ | ⟨g4, c4, cur4, e1, _, _, e2, e3, _⟩
  · injection e1 with e3 e4 e5
    subst e4 e5
    exact Nat.le_refl _
  · injection e1 with e5 e6 e7
    subst e6 e7
    exact e2
theorem func_nil {P : Program} {t : TypeId} {x y z} (h : P.underlying t = some (.func x y z)) (f : Fn) (fi ca : Array Value) (w : World) : Sem.run P (binOp .eql t (.func f fi ca) .nilFunc) w = .ok (.bool false) w := by
  have e : Sem.run P (Op.equalIn (9999 + 1) t (.func f fi ca) .nilFunc) w = .ok false w := by
    rw [Op.equalIn]
    rw [Sem.run_bind, run_underlying h]
    rfl
  simp [binOp, Op.equal, go_sem]
  rw [show Op.maxDepth = 9999 + 1 from rfl, e]
  rfl
theorem EX.grown {W0 W W' : World} {gb : Nat} {L : List Nat} (h : EX W0 gb L W) {B : Nat} (hB : W0.heap.size ≤ B) {row : Option Nat} (hg : W.grownBy W' row) (hr : ∀ r, row = some r → B ≤ r ∧ ∃ o : Obj, W.heap[r]? = some o ∧ o.isCells = false) : EX W0 gb L W' := by
  obtain ⟨v, h⟩ := h
  exact ⟨v, h.grown hB hg hr⟩
theorem prefix_take {V : List Nat} {pre ys : List {z : Nat // z ∈ nodesW V}} {m : Nat} (h : pre ++ ys = (nodesW V).attach) (hm : pre.length = m + 1) : (pre.map Subtype.val).map Int.ofNat = (nodesI V).take (m + 1) := by
  have e : nodesI V = (pre.map Subtype.val ++ ys.map Subtype.val).map Int.ofNat := by
    unfold nodesI
    rw [← List.map_append, h, List.attach_map_subtype_val]
  rw [e, List.map_append, List.take_left' (by rw [List.length_map, List.length_map, hm])]
theorem all_take {V : List Nat} {pre : List {z : Nat // z ∈ nodesW V}} {m : Nat} (h : pre = (nodesW V).attach) (hm : pre.length ≤ m) : (pre.map Subtype.val).map Int.ofNat = (nodesI V).take (m + 1) := by
  have e : nodesI V = (pre.map Subtype.val).map Int.ofNat := by
    unfold nodesI
    rw [h, List.attach_map_subtype_val]
  rw [e, List.take_of_length_le (by rw [List.length_map, List.length_map]; omega)]
set_option maxRecDepth 100000 in
set_option maxHeartbeats 4000000 in
theorem eachL_any (w : World) (A0 : Option Addr) (zs0 : List Int) (c0 : Nat) (hs0 : Sl w w.heap.size A0 (zs0.map (Value.int .i64))) (most : Int) (wm : (Lit.int .u8 most).wf = true) (hr : Ready6 w) :
    Calls Tryd.prog 3 #[.slice A0 zs0.length c0, .int .u8 most] w fun e w' => e = .returned (.bool true) ∧ Below w.heap.size w w' := by
  refine (callsIn_wide (n := 6)).1 ?_
  refine callsIn_of_wp_marks Tryd.func3 rfl trivial ?_ rfl
  simp only [Tryd.ntmps3, List.size_toArray, List.length_cons, List.length_nil, Nat.reduceAdd, Nat.reduceSub, Array.replicate_succ, Array.replicate_zero, List.push_toArray, List.append_toArray, List.nil_append, List.cons_append]
  have hb1 : Below w.heap.size w (w.alloc (.cells #[.int .u8 most] 5)) := (Below.refl _ _).alloc (Nat.le_refl _) _
  have hc1 := (new_cell w (.int .u8 most) 5).1
  have hl1 : w.heap.size < (w.alloc (.cells #[.int .u8 most] 5)).heap.size := by simp
  obtain ⟨w1, hw1⟩ : ∃ x, x = w.alloc (.cells #[.int .u8 most] 5) := ⟨_, rfl⟩
  rw [← hw1] at hb1 hc1 hl1
  have H1 := Lib.hid (And.intro hb1 (And.intro (hr.keep hb1 hr.room) (And.intro ((hs0.below hb1).more hb1.size) hl1)))
  have HC1 := Lib.hid hc1
  clear hr hs0 hb1 hc1 hl1
  by_cases hg0 : 60 < zs0.length
  · have dg0 : decide (60 < zs0.length) = true := decide_eq_true hg0
    gi_wp2
    rw [← hw1]
    clear hw1
    refine ⟨trivial, (callsIn_wide.2 (refGreat_any A0 zs0.length c0 w1)).mono ?_⟩
    rintro e w' ⟨rfl, hw⟩
    rw [hw]
    clear hw w'
    rw [dg0]
    gi_wp2
    refine ⟨trivial, (callsIn_wide.2 (awake_any w1 H1.out.2.1)).mono ?_⟩
    rintro e w2 ⟨rfl, hb2⟩
    have HB2 := Lib.hid (H1.out.1.trans (hb2.mono H1.out.1.size))
    clear hb2
    gi_wp2
    refine leaves_marks [] w2 (by simp) (by simp) fun W' hW' => ?_
    exact ⟨_, results_tmp rfl _ _ _, rfl, HB2.out.trans (hW'.below HB2.out.size (fun j e => by cases e))⟩
  · have dg0 : decide (60 < zs0.length) = false := decide_eq_false hg0
    have hz0 : zs0.length ≤ 60 := by omega
    gi_wp2
    rw [← hw1]
    clear hw1
    refine ⟨trivial, (callsIn_wide.2 (refGreat_any A0 zs0.length c0 w1)).mono ?_⟩
    rintro e w' ⟨rfl, hw⟩
    rw [hw]
    clear hw w'
    rw [dg0]
    gi_wp2
    refine ⟨trivial, (callsIn_wide.2 (refOf_any A0 c0 zs0 w1 H1.out.2.2.1 (by omega))).mono ?_⟩
    rintro e w2 ⟨v, rfl, hown, hb2⟩
    rw [refOf_nodes] at hown
    obtain ⟨AT, cT, rfl, hsl⟩ := OwnV.sl hown
    have hcap := own_caps hown
    have H2 := Lib.hid (And.intro (H1.out.1.trans (hb2.mono H1.out.1.size)) (And.intro (H1.out.2.1.below hb2) (And.intro ((H1.out.2.2.1.below hb2).more hb2.size) (And.intro hsl (Nat.lt_of_lt_of_le H1.out.2.2.2 hb2.size)))))
    have HC2 := Lib.hid ((hb2.cell (p := ⟨w.heap.size, 0, none⟩) H1.out.2.2.2).trans HC1.out)
    clear hown hsl hb2
    gi_wp2
    refine ⟨trivial, (callsIn_wide.2 (of_any w2 A0 c0 zs0 H2.out.2.2.1 (by omega))).mono ?_⟩
    rintro e w3 ⟨pS, rfl, hs, hb3⟩
    have H3 := Lib.hid (And.intro (H2.out.1.trans (hb3.mono H2.out.1.size)) (And.intro (H2.out.2.1.below hb3) (And.intro ((H2.out.2.2.2.1.below hb3).more hb3.size) (And.intro hs (Nat.lt_of_lt_of_le H2.out.2.2.2.2 hb3.size)))))
    have HC3 := Lib.hid ((hb3.cell (p := ⟨w.heap.size, 0, none⟩) H2.out.2.2.2.2).trans HC2.out)
    clear hs hb3
    obtain ⟨V, hV⟩ : ∃ V, V = ofW zs0 := ⟨_, rfl⟩
    rw [← hV] at H3 hcap ⊢
    clear hV
    obtain ⟨N, hN⟩ : ∃ N, N = (nodesI V).length := ⟨_, rfl⟩
    have HNN := Lib.hid hN
    have hN4 : N ≤ 4096 := by rw [hN]; exact nodesI_le H3.out.2.2.2.1.1
    rw [← hN] at hcap ⊢
    clear hN
    gi_wp2
    refine ⟨trivial, (callsIn_wide.2 (each_any w3 pS)).mono ?_⟩
    rintro e w' ⟨rfl, rfl⟩
    gi_wp2
    rw [func_nil Tryd.underlying27]
    obtain ⟨W0, hW0⟩ : ∃ W0, W0 = w3.alloc (.cells #[.pointer pS] 30) := ⟨_, rfl⟩
    obtain ⟨sb, hsb⟩ : ∃ sb, sb = w3.heap.size := ⟨_, rfl⟩
    obtain ⟨mb, hmb⟩ : ∃ mb, mb = w.heap.size := ⟨_, rfl⟩
    have hb4 : Below w3.heap.size w3 W0 := by rw [hW0]; exact (Below.refl _ _).alloc (Nat.le_refl _) _
    have hsc : W0.cell? ⟨sb, 0, none⟩ = some (.pointer pS) := by rw [hW0, hsb]; exact (new_cell w3 _ _).1
    have hsl : sb < W0.heap.size := by rw [hW0, hsb]; simp
    have HC4 := Lib.hid (show W0.cell? ⟨mb, 0, none⟩ = some (.int .u8 most) from by rw [hmb]; exact (hb4.cell (p := ⟨w.heap.size, 0, none⟩) H3.out.2.2.2.2).trans HC3.out)
    have H4 := Lib.hid (And.intro (H3.out.1.trans (hb4.mono H3.out.1.size)) (And.intro (H3.out.2.1.below hb4) (And.intro ((H3.out.2.2.1.below hb4).more hb4.size) (And.intro (H3.out.2.2.2.1.below hb4) (And.intro (show mb < W0.heap.size from by rw [hmb]; exact Nat.lt_of_lt_of_le H3.out.2.2.2.2 hb4.size) (And.intro hsc hsl))))))
    rw [← hmb, ← hsb, ← hW0]
    clear hb4 hsc hsl hW0 hsb hmb H1 H2 H3 HC1 HC2 HC3
    have HROW := Lib.hid (And.intro (rowOf_lt H4.out.2.2.2.1 H4.out.2.1.glt) H4.out.2.1.glt)
    have HMB := Lib.hid H4.out.2.2.2.2.1
    have hm0 : 0 ≤ most ∧ most ≤ 255 := by have h1 : IntKind.u8.min = 0 := rfl; have h2 : IntKind.u8.max = 255 := rfl; have := wm; simp only [Lit.wf, h1, h2, Bool.and_eq_true, decide_eq_true_eq] at this; exact this
    obtain ⟨m, hmm⟩ : ∃ m : Nat, most % 20 = (m : Int) := ⟨(most % 20).toNat, by omega⟩
    have hm19 : m ≤ 19 := by omega
    have hmt : most.tmod 20 = (m : Int) := by rw [Int.tmod_eq_emod_of_nonneg hm0.1]; exact hmm
    have hw1 : IntKind.i64.wrap most = most := IntWalk.i64_in _ (by omega)
    have hw2 : IntKind.i64.wrap (m : Int) = (m : Int) := IntWalk.i64_in _ (by omega)
    have hw3 : IntKind.i64.wrap ((m : Int) + 1) = (m : Int) + 1 := IntWalk.i64_in _ (by omega)
    gi_wp2
    refine wpIn_loop_ghost_k (fun kk a wr => ∃ (y7 y8 y20 y21 y22 y23 y24 y25 y26 y27 y28 y29 y30 y31 y32 y33 y34 y35 y36 y37 y38 y39 y40 y41 y42 y43 y44 y45 : Value) (Ds : List Nat) (ct : Nat), kk + ct = 2 ∧ LH W0 Ds wr ∧ a = { tmps := #[.slice A0 zs0.length c0, .int .u8 most, undef, .pointer (some ⟨mb, 0, none⟩), .bool false, .slice AT N cT, .func (.func 36) #[] #[.pointer (some ⟨sb, 0, none⟩)], y7, y8, .slice A0 zs0.length c0, .bool false, undef, .slice A0 zs0.length c0, .slice AT N cT, .slice A0 zs0.length c0, .agg #[.pointer pS], .func (.func 36) #[] #[.pointer (some ⟨sb, 0, none⟩)], .func (.func 36) #[] #[.pointer (some ⟨sb, 0, none⟩)], .bool false, .int .i64 (ct : Int), y20, y21, y22, y23, y24, y25, y26, y27, y28, y29, y30, y31, y32, y33, y34, y35, y36, y37, y38, y39, y40, y41, y42, y43, y44, y45, undef], defers := Ds.map mkD }) 2 ⟨_, _, _, _, _, _, _, _, _, _, _, _, _, _, _, _, _, _, _, _, _, _, _, _, _, _, _, _, [], 0, rfl, LH.start, rfl⟩ ?_
    rintro kk a wr ⟨y7, y8, y20, y21, y22, y23, y24, y25, y26, y27, y28, y29, y30, y31, y32, y33, y34, y35, y36, y37, y38, y39, y40, y41, y42, y43, y44, y45, Ds, ct, hkc, hlh, rfl⟩ J K hJ hK
    have HLH := Lib.hid hlh
    have HJ := Lib.hid hJ
    have HK := Lib.hid hK
    clear hlh hJ hK
    by_cases hct : ct = 2
    · have hct' : ¬ (ct : Int) < 2 := by omega
      gi_wp2
      refine ⟨trivial, (callsIn_wide.2 (awake_any wr (H4.out.2.1.keep HLH.out.below (Nat.le_trans H4.out.2.1.room (Nat.le_refl _))))).mono ?_⟩
      rintro e w5 ⟨rfl, hb5⟩
      have HL5 := Lib.hid (HLH.out.next hb5)
      clear hb5
      gi_wp2
      refine leaves_marks Ds w5 HL5.out.marks HL5.out.nodup fun W' hW' => ?_
      exact ⟨_, results_tmp rfl _ _ _, rfl, H4.out.1.trans ((HL5.out.out hW').mono H4.out.1.size)⟩
    · have hct' : (ct : Int) < 2 := by omega
      obtain ⟨kk2, hkk2⟩ : ∃ k2, kk = k2 + 1 := ⟨kk - 1, by omega⟩
      have hcb := new_cell wr (.slice none 0 0) 22
      have hbb : Below wr.heap.size wr (wr.alloc (.cells #[.slice none 0 0] 22)) := (Below.refl _ _).alloc (Nat.le_refl _) _
      have hzz : (wr.alloc (.cells #[.slice none 0 0] 22)).heap.size = wr.heap.size + 1 := by simp
      gi_wp2
      obtain ⟨W1, hW1⟩ : ∃ W1, W1 = wr.alloc (.cells #[.slice none 0 0] 22) := ⟨_, rfl⟩
      rw [← hW1] at hcb hbb hzz ⊢
      have hI0 : EX wr wr.heap.size [] W1 := ⟨_, hcb.1, hcb.2, OwnV.nil _ _ _, hbb, Nat.le_refl _, by simp [Value.ownBlock]⟩
      have hB01 : Below W0.heap.size W0 W1 := HLH.out.below.trans (hbb.mono HLH.out.below.size)
      have hbw1 := hbb.size
      clear hcb
      refine wpIn_rangeFunc_ownG rfl (by omega) (gf := 36) (lb := #[.pointer (some ⟨sb, 0, none⟩)]) rfl trivial (enters_of Tryd.func36 (by kernel_rfl) rfl)
        (each_stops 5 (by omega) sb pS V W0 H4.out.2.2.2.1 H4.out.2.2.2.2.2.1 H4.out.2.2.2.2.2.2 H4.out.2.1.bru H4.out.2.1.glt)
        KeepTwo.trans (fun W l o o' hl _ _ _ => KeepTwo.put (B := W1.heap.size) (Nat.lt_of_lt_of_le HROW.out.1 hB01.size) W l o' hl) hB01 (fun _ => rfl)
        (fun (pre : List {z : Nat // z ∈ nodesW V}) W => pre.length ≤ m ∧ EX wr wr.heap.size (pre.map Subtype.val) W) (fun c pre W => c = .exit 2 ∧ pre.length = m + 1 ∧ EX wr wr.heap.size (pre.map Subtype.val) W)
        (fun s A B row hs hgr hr => ⟨hs.1, hs.2.grown hbw1 hgr hr⟩) (fun c s A B row hs hgr hr => ⟨hs.1, hs.2.1, hs.2.2.grown hbw1 hgr hr⟩) ⟨Nat.zero_le _, hI0⟩
        (fun y => { tmps := #[.slice A0 zs0.length c0, .int .u8 most, undef, .pointer (some ⟨mb, 0, none⟩), .bool false, .slice AT N cT, .func (.func 36) #[] #[.pointer (some ⟨sb, 0, none⟩)], .pointer (some ⟨wr.heap.size, 0, none⟩), .int .i64 y.1, .slice A0 zs0.length c0, .bool false, undef, .slice A0 zs0.length c0, .slice AT N cT, .slice A0 zs0.length c0, .agg #[.pointer pS], .func (.func 36) #[] #[.pointer (some ⟨sb, 0, none⟩)], .func (.func 36) #[] #[.pointer (some ⟨sb, 0, none⟩)], .bool false, .int .i64 (ct : Int), .bool true, .func (.func 36) #[] #[.pointer (some ⟨sb, 0, none⟩)], .int .i64 y.1, y23, y24, y25, y26, y27, y28, y29, y30, y31, y32, y33, y34, y35, y36, y37, y38, y39, y40, y41, y42, y43, y44, y45, undef], defers := [] }) ?assign ?body ?done ?stop
      case assign =>
        intro l y W K hK
        gi_wp2
        exact hK
      case done =>
        rintro D pre W hD hall ⟨hpl, h⟩ hm
        have HXS := Lib.hid (show (pre.map Subtype.val).map Int.ofNat = (nodesI V).take (m + 1) from all_take hall hpl)
        have HKK : min (N : Int) ((m : Int) + 1) = ((pre.map Subtype.val).length : Int) := by rw [List.length_map, HNN.out, nodesI_length, ← List.length_attach, ← hall]; omega
        clear hall hpl
        obtain ⟨k, hk⟩ : ∃ k, k = (pre.map Subtype.val).length := ⟨_, rfl⟩
        obtain ⟨v, h⟩ := h
        obtain ⟨A, c', rfl, hsl⟩ := OwnV.sl h.own
        rw [← hk] at h
        have hcg := h.cell
        have hbW := h.below
        have hkm : min (N : Int) ((m : Int) + 1) = (k : Int) := by rw [hk]; exact HKK
        have HLD := Lib.hid (show ∀ X, Below W.heap.size W X → X.cell? ⟨wr.heap.size, 0, none⟩ = some (.slice A k c') ∧ X.cell? ⟨mb, 0, none⟩ = some (.int .u8 most) from fun X hX => ⟨(hX.cell (p := ⟨wr.heap.size, 0, none⟩) h.lt).trans hcg, (hX.cell (p := ⟨mb, 0, none⟩) (Nat.lt_of_lt_of_le HMB.out (Nat.le_trans HLH.out.below.size hbW.size))).trans ((hbW.cell (p := ⟨mb, 0, none⟩) (Nat.lt_of_lt_of_le HMB.out HLH.out.below.size)).trans ((HLH.out.below.cell (p := ⟨mb, 0, none⟩) HMB.out).trans HC4.out))⟩)
        have HS1 := Lib.hid (show Sl W W.heap.size A ((nodesI V).take (m + 1) |>.map (Value.int .i64)) from by rw [← HXS.out, List.map_map]; exact hsl)
        have HS2 := Lib.hid (show Sl W W.heap.size AT ((nodesI V).take (m + 1) |>.map (Value.int .i64)) from by rw [List.map_take]; exact (((H4.out.2.2.1.below HLH.out.below).more HLH.out.below.size).below hbW |>.more hbW.size).take _)
        have hkl : ((nodesI V).take (m + 1)).length = k := by rw [← HXS.out, List.length_map, hk]
        have hxle : k ≤ 4096 := by omega
        have hkc : k ≤ cT := by omega
        have hkc' : ¬ cT < k := by omega
        clear hk HKK
        have HB := Lib.hid hbW
        have HMK := Lib.hid hm
        clear hsl hcg hm
        gi_wp2
        refine wpIn_region_held_wide (S := fun X => Below W.heap.size W X) (by kernel_rfl) (by exact below_drewN (Below.refl _ _) 1) (fun hHeld => ?_)
        obtain ⟨wd, hwd⟩ : ∃ wd, wd = W.drew := ⟨_, rfl⟩
        rw [← hwd] at hHeld ⊢
        have hBd := hHeld
        clear hwd
        refine wpAnyH_take (i := 0) (v := .slice A k c') rfl (by kernel_rfl) (by kernel_rfl) (by kernel_rfl) (fun _ _ _ h => by cases h.1) (Or.inl ⟨by rfl, ?_⟩) (by assumption) ?_
        · intro w hSw
          obtain ⟨s0, s1⟩ := HLD.out _ hSw
          go_simp
        show wpAnyH _ _ _ _ _ _ _ (Act.put _ (some 33) _) _
        simp only [Act.put, List.setIfInBounds_toArray, List.set_cons_zero, List.set_cons_succ]
        refine wpAnyH_take (i := 1) (v := .slice AT N cT) rfl (by kernel_rfl) (by kernel_rfl) (by kernel_rfl) (fun _ _ _ h => by cases h.1) (Or.inl ⟨by rfl, ?_⟩) (by assumption) ?_
        · intro w hSw
          obtain ⟨s0, s1⟩ := HLD.out _ hSw
          go_simp
        show wpAnyH _ _ _ _ _ _ _ (Act.put _ (some 34) _) _
        simp only [Act.put, List.setIfInBounds_toArray, List.set_cons_zero, List.set_cons_succ]
        refine wpAnyH_take (i := 2) (v := .slice AT N cT) rfl (by kernel_rfl) (by kernel_rfl) (by kernel_rfl) (fun _ _ _ h => by cases h.1) (Or.inl ⟨by rfl, ?_⟩) (by assumption) ?_
        · intro w hSw
          obtain ⟨s0, s1⟩ := HLD.out _ hSw
          go_simp
        show wpAnyH _ _ _ _ _ _ _ (Act.put _ (some 35) _) _
        simp only [Act.put, List.setIfInBounds_toArray, List.set_cons_zero, List.set_cons_succ]
        refine wpAnyH_take (i := 3) (v := .int .i64 (N : Int)) rfl (by kernel_rfl) (by kernel_rfl) (by kernel_rfl) (fun _ _ _ h => by cases h.1) (Or.inl ⟨by rfl, ?_⟩) (by assumption) ?_
        · intro w hSw
          obtain ⟨s0, s1⟩ := HLD.out _ hSw
          go_simp
        show wpAnyH _ _ _ _ _ _ _ (Act.put _ (some 36) _) _
        simp only [Act.put, List.setIfInBounds_toArray, List.set_cons_zero, List.set_cons_succ]
        refine wpAnyH_take (i := 4) (v := .int .u8 most) rfl (by kernel_rfl) (by kernel_rfl) (by kernel_rfl) (fun _ _ _ h => by cases h.1) (Or.inl ⟨by rfl, ?_⟩) (by assumption) ?_
        · intro w hSw
          obtain ⟨s0, s1⟩ := HLD.out _ hSw
          go_simp
        show wpAnyH _ _ _ _ _ _ _ (Act.put _ (some 37) _) _
        simp only [Act.put, List.setIfInBounds_toArray, List.set_cons_zero, List.set_cons_succ]
        refine wpAnyH_take (i := 5) (v := .int .i64 most) rfl (by kernel_rfl) (by kernel_rfl) (by kernel_rfl) (fun _ _ _ h => by cases h.1) (Or.inl ⟨by rfl, ?_⟩) (by assumption) ?_
        · intro w hSw
          obtain ⟨s0, s1⟩ := HLD.out _ hSw
          go_simp
        show wpAnyH _ _ _ _ _ _ _ (Act.put _ (some 38) _) _
        simp only [Act.put, List.setIfInBounds_toArray, List.set_cons_zero, List.set_cons_succ]
        refine wpAnyH_take (i := 6) (v := .int .i64 (m : Int)) rfl (by kernel_rfl) (by kernel_rfl) (by kernel_rfl) (fun _ _ _ h => by cases h.1) (Or.inl ⟨by rfl, ?_⟩) (by assumption) ?_
        · intro w hSw
          obtain ⟨s0, s1⟩ := HLD.out _ hSw
          go_simp
        show wpAnyH _ _ _ _ _ _ _ (Act.put _ (some 39) _) _
        simp only [Act.put, List.setIfInBounds_toArray, List.set_cons_zero, List.set_cons_succ]
        refine wpAnyH_take (i := 7) (v := .int .i64 ((m : Int) + 1)) rfl (by kernel_rfl) (by kernel_rfl) (by kernel_rfl) (fun _ _ _ h => by cases h.1) (Or.inl ⟨by rfl, ?_⟩) (by assumption) ?_
        · intro w hSw
          obtain ⟨s0, s1⟩ := HLD.out _ hSw
          go_simp
        show wpAnyH _ _ _ _ _ _ _ (Act.put _ (some 40) _) _
        simp only [Act.put, List.setIfInBounds_toArray, List.set_cons_zero, List.set_cons_succ]
        refine wpAnyH_take (i := 8) (v := .int .i64 (k : Int)) rfl (by kernel_rfl) (by kernel_rfl) (by kernel_rfl) (fun _ _ _ h => by cases h.1) (Or.inl ⟨by rfl, ?_⟩) (by assumption) ?_
        · intro w hSw
          obtain ⟨s0, s1⟩ := HLD.out _ hSw
          go_simp
        show wpAnyH _ _ _ _ _ _ _ (Act.put _ (some 41) _) _
        simp only [Act.put, List.setIfInBounds_toArray, List.set_cons_zero, List.set_cons_succ]
        refine wpAnyH_take (i := 9) (v := .slice AT k cT) rfl (by kernel_rfl) (by kernel_rfl) (by kernel_rfl) (fun _ _ _ h => by cases h.1) (Or.inl ⟨by rfl, ?_⟩) (by assumption) ?_
        · intro w hSw
          obtain ⟨s0, s1⟩ := HLD.out _ hSw
          go_simp
        show wpAnyH _ _ _ _ _ _ _ (Act.put _ (some 42) _) _
        simp only [Act.put, List.setIfInBounds_toArray, List.set_cons_zero, List.set_cons_succ]
        have hss := refSame_self A AT c' cT ((nodesI V).take (m + 1)) wd ((HS1.out.below hBd).more hBd.size) ((HS2.out.below hBd).more hBd.size) (by rw [hkl]; omega)
        rw [hkl] at hss
        refine wpAnyH_ready (rs := [10]) (by kernel_rfl) (by simp) ?_
        refine AllReadyH.cons rfl (fun K hK => ?_) AllReadyH.nil
        go_simp
        ((with_reducible refine hss.mono ?_))
        rintro e w5 ⟨rfl, hb5⟩
        have hB5 := hBd.trans (hb5.mono hBd.size)
        go_simp
        refine hK.out _ _ hB5 (fun hHeld => ?_)
        clear hK K hss hb5
        refine wpAnyH_take (i := 11) (v := .bool false) rfl (by kernel_rfl) (by kernel_rfl) (by kernel_rfl) (fun _ _ _ h => by cases h.1) (Or.inl ⟨by rfl, ?_⟩) (by assumption) ?_
        · intro w hSw
          obtain ⟨s0, s1⟩ := HLD.out _ hSw
          go_simp
        show wpAnyH _ _ _ _ _ _ _ (Act.put _ (some 44) _) _
        simp only [Act.put, List.setIfInBounds_toArray, List.set_cons_zero, List.set_cons_succ]
        refine wpAnyH_done (by kernel_rfl) ⟨rfl, ?_⟩ _
        have hlh5 := HLH.out.next (HB.out.trans (hB5.mono HB.out.size))
        have hmD := (hB5.block D (Array.getElem?_eq_some_iff.1 HMK.out).1).trans HMK.out
        have HL5 := Lib.hid (hlh5.mark (B := wr.heap.size) HLH.out.lt HLH.out.below.size (Nat.le_trans hbw1 hD) hmD)
        clear hlh5 hmD
        gi_wp2
        refine HK.out _ _ (Handed.intro kk2 (by omega) (HJ.out _ _ _ ⟨_, _, _, _, _, _, _, _, _, _, _, _, _, _, _, _, _, _, _, _, _, _, _, _, _, _, _, _, D :: Ds, ct + 1, by omega, HL5.out, by rfl⟩))
      case stop =>
        rintro D c pre W hD ⟨ys, hys⟩ ⟨rfl, hpl, h⟩ hm
        have HXS := Lib.hid (show (pre.map Subtype.val).map Int.ofNat = (nodesI V).take (m + 1) from prefix_take hys hpl)
        have HKK : min (N : Int) ((m : Int) + 1) = ((pre.map Subtype.val).length : Int) := by rw [List.length_map, hpl, HNN.out, nodesI_length, ← List.length_attach, ← hys, List.length_append, hpl]; omega
        clear hys hpl
        obtain ⟨k, hk⟩ : ∃ k, k = (pre.map Subtype.val).length := ⟨_, rfl⟩
        obtain ⟨v, h⟩ := h
        obtain ⟨A, c', rfl, hsl⟩ := OwnV.sl h.own
        rw [← hk] at h
        have hcg := h.cell
        have hbW := h.below
        have hkm : min (N : Int) ((m : Int) + 1) = (k : Int) := by rw [hk]; exact HKK
        have HLD := Lib.hid (show ∀ X, Below W.heap.size W X → X.cell? ⟨wr.heap.size, 0, none⟩ = some (.slice A k c') ∧ X.cell? ⟨mb, 0, none⟩ = some (.int .u8 most) from fun X hX => ⟨(hX.cell (p := ⟨wr.heap.size, 0, none⟩) h.lt).trans hcg, (hX.cell (p := ⟨mb, 0, none⟩) (Nat.lt_of_lt_of_le HMB.out (Nat.le_trans HLH.out.below.size hbW.size))).trans ((hbW.cell (p := ⟨mb, 0, none⟩) (Nat.lt_of_lt_of_le HMB.out HLH.out.below.size)).trans ((HLH.out.below.cell (p := ⟨mb, 0, none⟩) HMB.out).trans HC4.out))⟩)
        have HS1 := Lib.hid (show Sl W W.heap.size A ((nodesI V).take (m + 1) |>.map (Value.int .i64)) from by rw [← HXS.out, List.map_map]; exact hsl)
        have HS2 := Lib.hid (show Sl W W.heap.size AT ((nodesI V).take (m + 1) |>.map (Value.int .i64)) from by rw [List.map_take]; exact (((H4.out.2.2.1.below HLH.out.below).more HLH.out.below.size).below hbW |>.more hbW.size).take _)
        have hkl : ((nodesI V).take (m + 1)).length = k := by rw [← HXS.out, List.length_map, hk]
        have hxle : k ≤ 4096 := by omega
        have hkc : k ≤ cT := by omega
        have hkc' : ¬ cT < k := by omega
        clear hk HKK
        have HB := Lib.hid hbW
        have HMK := Lib.hid hm
        clear hsl hcg hm
        gi_wp2
        refine wpIn_region_held_wide (S := fun X => Below W.heap.size W X) (by kernel_rfl) (by exact below_drewN (Below.refl _ _) 1) (fun hHeld => ?_)
        obtain ⟨wd, hwd⟩ : ∃ wd, wd = W.drew := ⟨_, rfl⟩
        rw [← hwd] at hHeld ⊢
        have hBd := hHeld
        clear hwd
        refine wpAnyH_take (i := 0) (v := .slice A k c') rfl (by kernel_rfl) (by kernel_rfl) (by kernel_rfl) (fun _ _ _ h => by cases h.1) (Or.inl ⟨by rfl, ?_⟩) (by assumption) ?_
        · intro w hSw
          obtain ⟨s0, s1⟩ := HLD.out _ hSw
          go_simp
        show wpAnyH _ _ _ _ _ _ _ (Act.put _ (some 33) _) _
        simp only [Act.put, List.setIfInBounds_toArray, List.set_cons_zero, List.set_cons_succ]
        refine wpAnyH_take (i := 1) (v := .slice AT N cT) rfl (by kernel_rfl) (by kernel_rfl) (by kernel_rfl) (fun _ _ _ h => by cases h.1) (Or.inl ⟨by rfl, ?_⟩) (by assumption) ?_
        · intro w hSw
          obtain ⟨s0, s1⟩ := HLD.out _ hSw
          go_simp
        show wpAnyH _ _ _ _ _ _ _ (Act.put _ (some 34) _) _
        simp only [Act.put, List.setIfInBounds_toArray, List.set_cons_zero, List.set_cons_succ]
        refine wpAnyH_take (i := 2) (v := .slice AT N cT) rfl (by kernel_rfl) (by kernel_rfl) (by kernel_rfl) (fun _ _ _ h => by cases h.1) (Or.inl ⟨by rfl, ?_⟩) (by assumption) ?_
        · intro w hSw
          obtain ⟨s0, s1⟩ := HLD.out _ hSw
          go_simp
        show wpAnyH _ _ _ _ _ _ _ (Act.put _ (some 35) _) _
        simp only [Act.put, List.setIfInBounds_toArray, List.set_cons_zero, List.set_cons_succ]
        refine wpAnyH_take (i := 3) (v := .int .i64 (N : Int)) rfl (by kernel_rfl) (by kernel_rfl) (by kernel_rfl) (fun _ _ _ h => by cases h.1) (Or.inl ⟨by rfl, ?_⟩) (by assumption) ?_
        · intro w hSw
          obtain ⟨s0, s1⟩ := HLD.out _ hSw
          go_simp
        show wpAnyH _ _ _ _ _ _ _ (Act.put _ (some 36) _) _
        simp only [Act.put, List.setIfInBounds_toArray, List.set_cons_zero, List.set_cons_succ]
        refine wpAnyH_take (i := 4) (v := .int .u8 most) rfl (by kernel_rfl) (by kernel_rfl) (by kernel_rfl) (fun _ _ _ h => by cases h.1) (Or.inl ⟨by rfl, ?_⟩) (by assumption) ?_
        · intro w hSw
          obtain ⟨s0, s1⟩ := HLD.out _ hSw
          go_simp
        show wpAnyH _ _ _ _ _ _ _ (Act.put _ (some 37) _) _
        simp only [Act.put, List.setIfInBounds_toArray, List.set_cons_zero, List.set_cons_succ]
        refine wpAnyH_take (i := 5) (v := .int .i64 most) rfl (by kernel_rfl) (by kernel_rfl) (by kernel_rfl) (fun _ _ _ h => by cases h.1) (Or.inl ⟨by rfl, ?_⟩) (by assumption) ?_
        · intro w hSw
          obtain ⟨s0, s1⟩ := HLD.out _ hSw
          go_simp
        show wpAnyH _ _ _ _ _ _ _ (Act.put _ (some 38) _) _
        simp only [Act.put, List.setIfInBounds_toArray, List.set_cons_zero, List.set_cons_succ]
        refine wpAnyH_take (i := 6) (v := .int .i64 (m : Int)) rfl (by kernel_rfl) (by kernel_rfl) (by kernel_rfl) (fun _ _ _ h => by cases h.1) (Or.inl ⟨by rfl, ?_⟩) (by assumption) ?_
        · intro w hSw
          obtain ⟨s0, s1⟩ := HLD.out _ hSw
          go_simp
        show wpAnyH _ _ _ _ _ _ _ (Act.put _ (some 39) _) _
        simp only [Act.put, List.setIfInBounds_toArray, List.set_cons_zero, List.set_cons_succ]
        refine wpAnyH_take (i := 7) (v := .int .i64 ((m : Int) + 1)) rfl (by kernel_rfl) (by kernel_rfl) (by kernel_rfl) (fun _ _ _ h => by cases h.1) (Or.inl ⟨by rfl, ?_⟩) (by assumption) ?_
        · intro w hSw
          obtain ⟨s0, s1⟩ := HLD.out _ hSw
          go_simp
        show wpAnyH _ _ _ _ _ _ _ (Act.put _ (some 40) _) _
        simp only [Act.put, List.setIfInBounds_toArray, List.set_cons_zero, List.set_cons_succ]
        refine wpAnyH_take (i := 8) (v := .int .i64 (k : Int)) rfl (by kernel_rfl) (by kernel_rfl) (by kernel_rfl) (fun _ _ _ h => by cases h.1) (Or.inl ⟨by rfl, ?_⟩) (by assumption) ?_
        · intro w hSw
          obtain ⟨s0, s1⟩ := HLD.out _ hSw
          go_simp
        show wpAnyH _ _ _ _ _ _ _ (Act.put _ (some 41) _) _
        simp only [Act.put, List.setIfInBounds_toArray, List.set_cons_zero, List.set_cons_succ]
        refine wpAnyH_take (i := 9) (v := .slice AT k cT) rfl (by kernel_rfl) (by kernel_rfl) (by kernel_rfl) (fun _ _ _ h => by cases h.1) (Or.inl ⟨by rfl, ?_⟩) (by assumption) ?_
        · intro w hSw
          obtain ⟨s0, s1⟩ := HLD.out _ hSw
          go_simp
        show wpAnyH _ _ _ _ _ _ _ (Act.put _ (some 42) _) _
        simp only [Act.put, List.setIfInBounds_toArray, List.set_cons_zero, List.set_cons_succ]
        have hss := refSame_self A AT c' cT ((nodesI V).take (m + 1)) wd ((HS1.out.below hBd).more hBd.size) ((HS2.out.below hBd).more hBd.size) (by rw [hkl]; omega)
        rw [hkl] at hss
        refine wpAnyH_ready (rs := [10]) (by kernel_rfl) (by simp) ?_
        refine AllReadyH.cons rfl (fun K hK => ?_) AllReadyH.nil
        go_simp
        ((with_reducible refine hss.mono ?_))
        rintro e w5 ⟨rfl, hb5⟩
        have hB5 := hBd.trans (hb5.mono hBd.size)
        go_simp
        refine hK.out _ _ hB5 (fun hHeld => ?_)
        clear hK K hss hb5
        refine wpAnyH_take (i := 11) (v := .bool false) rfl (by kernel_rfl) (by kernel_rfl) (by kernel_rfl) (fun _ _ _ h => by cases h.1) (Or.inl ⟨by rfl, ?_⟩) (by assumption) ?_
        · intro w hSw
          obtain ⟨s0, s1⟩ := HLD.out _ hSw
          go_simp
        show wpAnyH _ _ _ _ _ _ _ (Act.put _ (some 44) _) _
        simp only [Act.put, List.setIfInBounds_toArray, List.set_cons_zero, List.set_cons_succ]
        refine wpAnyH_done (by kernel_rfl) ⟨rfl, ?_⟩ _
        have hlh5 := HLH.out.next (HB.out.trans (hB5.mono HB.out.size))
        have hmD := (hB5.block D (Array.getElem?_eq_some_iff.1 HMK.out).1).trans HMK.out
        have HL5 := Lib.hid (hlh5.mark (B := wr.heap.size) HLH.out.lt HLH.out.below.size (Nat.le_trans hbw1 hD) hmD)
        clear hlh5 hmD
        gi_wp2
        refine HK.out _ _ (Handed.intro kk2 (by omega) (HJ.out _ _ _ ⟨_, _, _, _, _, _, _, _, _, _, _, _, _, _, _, _, _, _, _, _, _, _, _, _, _, _, _, _, D :: Ds, ct + 1, by omega, HL5.out, by rfl⟩))
      case body =>
        rintro l pre x W ⟨hpl, v, h⟩ hlen
        obtain ⟨i0, hi, hz, hs, hby⟩ := info_parts int_info
        obtain ⟨Lp, hLp⟩ : ∃ L, L = pre.map Subtype.val := ⟨_, rfl⟩
        have hll : Lp.length = pre.length := by rw [hLp, List.length_map]
        rw [← hLp] at h
        have HLP := Lib.hid hLp
        have hcg := h.cell
        have HI := Lib.hid h
        have hmW : W.cell? ⟨mb, 0, none⟩ = some (.int .u8 most) := (h.below.cell (p := ⟨mb, 0, none⟩) (Nat.lt_of_lt_of_le HMB.out HLH.out.below.size)).trans ((HLH.out.below.cell (p := ⟨mb, 0, none⟩) HMB.out).trans HC4.out)
        have HMW := Lib.hid hmW
        obtain ⟨A, c', rfl⟩ := h.slice
        have hbz := h.below.size
        have hlL : Lp.length ≤ 20 := by omega
        have hmbg : mb < wr.heap.size := Nat.lt_of_lt_of_le HMB.out HLH.out.below.size
        have hmne : ¬ mb = wr.heap.size := by omega
        have HLL := Lib.hid hll
        have hlenN := hlen
        have hpl2 : pre.length ≤ m := hpl
        have HPL := Lib.hid hpl2
        clear h hLp hmW hll hlen hpl hlenN hpl2
        by_cases hbr : Lp.length + 1 ≤ m
        · have hbr' : ¬ (m : Int) < (Lp.length : Int) + 1 := by omega
          have HE := Lib.hid (show (pre ++ [x]).map Subtype.val = Lp ++ [x.1] from by rw [List.map_append, List.map_singleton, HLP.out])
          gi_wp2_with (refine wpListIn_append_own _ rfl _ _ 22 rfl wr.heap.size 3 i0 (.int .i64 0) 1 8 Tryd.underlying22 hi hz hs hby rfl (by decide) (.slice A Lp.length c') Lp.length (Lp.map nodeV) rfl (World.ownsRow.alloc HI.out.own _) ⟨W.heap.size, 0, none⟩ 1 1 [nodeV x.1] rfl rfl (cell_one_new _ _ _) (by intro u hu; rcases List.mem_singleton.1 hu with rfl; rfl) (by unfold maxLen; omega) (by omega) (by simp; omega) ?_; intro v' w' hown' hgrow' _; obtain ⟨A2, c2', rfl, _⟩ := Sl.own hown'; obtain ⟨c1, f1, ho, hEI, hall⟩ := EI.push HI.out x.1 hown' hgrow'; have hmw2 := (hall ⟨mb, 0, none⟩ hmbg).trans HMW.out; have HO := Lib.hid (And.intro ho hEI); clear hall ho hEI hown' hgrow')
          obtain ⟨ho, hEI⟩ := HO.out
          have hkf : KeepsFrom W1.heap.size W _ := keeps_from ho (fun j s _ => by
            rcases s with e | e
            · rw [e]; exact cells_of_cell HI.out.cell
            · exact (own_block_cells HI.out.own e).2.2)
          have hEX : EX wr wr.heap.size ((pre ++ [x]).map Subtype.val) _ := ⟨_, by rw [HE.out]; exact hEI⟩
          refine ⟨by first | exact hkf | (rw [← hzz]; exact hkf), KeepTwo.only ho (Nat.lt_of_lt_of_le HROW.out.1 (Nat.le_trans HLH.out.below.size hbz)) (Nat.lt_of_lt_of_le HROW.out.2 (Nat.le_trans HLH.out.below.size hbz)) ?_ ?_, by rw [List.length_append, List.length_singleton]; have := HLL.out; have := HPL.out; omega, hEX⟩
          · have h1 := Nat.lt_of_lt_of_le HROW.out.1 HLH.out.below.size
            rintro (e | e)
            · omega
            · have := (own_block_cells HI.out.own e).1
              omega
          · have h1 := Nat.lt_of_lt_of_le HROW.out.2 HLH.out.below.size
            rintro (e | e)
            · omega
            · have := (own_block_cells HI.out.own e).1
              omega
        · have hbr' : (m : Int) < (Lp.length : Int) + 1 := by omega
          have HE := Lib.hid (show (pre ++ [x]).map Subtype.val = Lp ++ [x.1] from by rw [List.map_append, List.map_singleton, HLP.out])
          gi_wp2_with (refine wpListIn_append_own _ rfl _ _ 22 rfl wr.heap.size 3 i0 (.int .i64 0) 1 8 Tryd.underlying22 hi hz hs hby rfl (by decide) (.slice A Lp.length c') Lp.length (Lp.map nodeV) rfl (World.ownsRow.alloc HI.out.own _) ⟨W.heap.size, 0, none⟩ 1 1 [nodeV x.1] rfl rfl (cell_one_new _ _ _) (by intro u hu; rcases List.mem_singleton.1 hu with rfl; rfl) (by unfold maxLen; omega) (by omega) (by simp; omega) ?_; intro v' w' hown' hgrow' _; obtain ⟨A2, c2', rfl, _⟩ := Sl.own hown'; obtain ⟨c1, f1, ho, hEI, hall⟩ := EI.push HI.out x.1 hown' hgrow'; have hmw2 := (hall ⟨mb, 0, none⟩ hmbg).trans HMW.out; have HO := Lib.hid (And.intro ho hEI); clear hall ho hEI hown' hgrow')
          obtain ⟨ho, hEI⟩ := HO.out
          have hkf : KeepsFrom W1.heap.size W _ := keeps_from ho (fun j s _ => by
            rcases s with e | e
            · rw [e]; exact cells_of_cell HI.out.cell
            · exact (own_block_cells HI.out.own e).2.2)
          have hEX : EX wr wr.heap.size ((pre ++ [x]).map Subtype.val) _ := ⟨_, by rw [HE.out]; exact hEI⟩
          exact ⟨by first | exact hkf | (rw [← hzz]; exact hkf), rfl, by rw [List.length_append, List.length_singleton]; have := HLL.out; have := HPL.out; omega, hEX⟩
end Go.Proofs.YtalfjcamjdmdjaaDoor
