/-
  Incidents as they lie in memory and come in; the order in which they are served, and insertion.
-/
import Derived.Test.YtpomakmmjbimfaaDisp
import Derived.Test.YtpomakmmjbimfaaKinds
namespace Go.Proofs.Ytpomakmmjbimfaa
open Go.ChangeShapes Go.WideShapes Go.ChangeAt Go.RowKit

structure IncT where
  id : Int
  urg : Int
  code : ByteArray
  nA : Option Addr
  nodes : List Int
  nc : Nat
  dist : Int
  since : Int
  cA : Option Addr
  cl : Nat
  cc : Nat
  uA : Option Addr
  ul : Nat
  uc : Nat
  merged : Int
  closed : Bool
def cellsI (x : IncT) : List Value := [.int .i64 x.id, .int .i64 x.urg, .string x.code, .slice x.nA x.nodes.length x.nc, .int .i64 x.dist, .int .i64 x.since, .slice x.cA x.cl x.cc, .slice x.uA x.ul x.uc, .int .i64 x.merged, .bool x.closed]
theorem cellsI_len (x : IncT) : (cellsI x).length = 10 := rfl
theorem cellsI_one (x : IncT) : ∀ v ∈ cellsI x, v.oneCell' = true := by
  intro v hv
  simp only [cellsI, List.mem_cons, List.not_mem_nil, or_false] at hv
  rcases hv with rfl | rfl | rfl | rfl | rfl | rfl | rfl | rfl | rfl | rfl <;> rfl
abbrev IncsAt := RecsAt cellsI
abbrev OwnInc := OwnR cellsI 10
theorem inc_info : (Try.prog.info? 65).map (fun i => (i.zero, i.size, i.bytes)) = some (some (.agg #[.int .i64 0, .int .i64 0, .string ⟨#[]⟩, .slice none 0 0, .int .i64 0, .int .i64 0, .slice none 0 0, .slice none 0 0, .int .i64 0, .bool false]), 10, 136) := by kernel_rfl
/-- the nodes of each incident. -/
def NodesAt (w : World) (B : Nat) (xs : List IncT) : Prop := ∀ x ∈ xs, Sl w B x.nA (x.nodes.map (Value.int .i64))
theorem NodesAt.below {w w' : World} {B : Nat} {xs : List IncT} (h : NodesAt w B xs) (hb : Below B w w') : NodesAt w' B xs := fun x hx => (h x hx).below hb
theorem NodesAt.more {w : World} {B B' : Nat} {xs : List IncT} (h : NodesAt w B xs) (hB : B ≤ B') : NodesAt w B' xs := fun x hx => (h x hx).more hB
theorem NodesAt.sub {w : World} {B : Nat} {xs ys : List IncT} (h : NodesAt w B xs) (hs : ∀ y ∈ ys, y ∈ xs) : NodesAt w B ys := fun x hx => h x (hs x hx)
structure IncWf (x : IncT) : Prop where
  id : (Lit.int .i64 x.id).wf = true
  code : x.code.size ≤ 9223372036854775807
  nlen : x.nodes.length ≤ x.nc
  ncap : x.nc ≤ 9223372036854775807
  nnil : x.nA = none → x.nc = 0
  cl : x.cl ≤ 9223372036854775807
  ul : x.ul ≤ 9223372036854775807

theorem inc_cells {w : World} {b o : Nat} {x : IncT} (h : ∀ (j : Nat) (v : Value), (cellsI x)[j]? = some v → w.cell? ⟨b, o + j, none⟩ = some v) :
    w.cell? ⟨b, o, none⟩ = some (.int .i64 x.id) ∧ w.cell? ⟨b, o + 1, none⟩ = some (.int .i64 x.urg) ∧ w.cell? ⟨b, o + 2, none⟩ = some (.string x.code) ∧ w.cell? ⟨b, o + 3, none⟩ = some (.slice x.nA x.nodes.length x.nc) ∧ w.cell? ⟨b, o + 4, none⟩ = some (.int .i64 x.dist) ∧
    w.cell? ⟨b, o + 5, none⟩ = some (.int .i64 x.since) ∧ w.cell? ⟨b, o + 6, none⟩ = some (.slice x.cA x.cl x.cc) ∧ w.cell? ⟨b, o + 7, none⟩ = some (.slice x.uA x.ul x.uc) ∧ w.cell? ⟨b, o + 8, none⟩ = some (.int .i64 x.merged) ∧ w.cell? ⟨b, o + 9, none⟩ = some (.bool x.closed) :=
  ⟨h 0 _ rfl, h 1 _ rfl, h 2 _ rfl, h 3 _ rfl, h 4 _ rfl, h 5 _ rfl, h 6 _ rfl, h 7 _ rfl, h 8 _ rfl, h 9 _ rfl⟩
theorem inc_at {w : World} {B : Nat} {A : Option Addr} {xs : List IncT} (h : IncsAt w B A xs) {i : Nat} {x : IncT} (hi : xs[i]? = some x) : ∃ b o, A = some ⟨b, o, none⟩ ∧ b < B ∧ w.cell? ⟨b, o + i * 10, none⟩ = some (.int .i64 x.id) ∧ w.cell? ⟨b, o + i * 10 + 1, none⟩ = some (.int .i64 x.urg) ∧ w.cell? ⟨b, o + i * 10 + 2, none⟩ = some (.string x.code) ∧ w.cell? ⟨b, o + i * 10 + 3, none⟩ = some (.slice x.nA x.nodes.length x.nc) ∧ w.cell? ⟨b, o + i * 10 + 4, none⟩ = some (.int .i64 x.dist) ∧
    w.cell? ⟨b, o + i * 10 + 5, none⟩ = some (.int .i64 x.since) ∧ w.cell? ⟨b, o + i * 10 + 6, none⟩ = some (.slice x.cA x.cl x.cc) ∧ w.cell? ⟨b, o + i * 10 + 7, none⟩ = some (.slice x.uA x.ul x.uc) ∧ w.cell? ⟨b, o + i * 10 + 8, none⟩ = some (.int .i64 x.merged) ∧ w.cell? ⟨b, o + i * 10 + 9, none⟩ = some (.bool x.closed) := by
  obtain ⟨b, o, e, hb, hc⟩ := RecsAt.at cellsI_len h hi (by omega)
  exact ⟨b, o, e, hb, inc_cells hc⟩

section
variable {H : Type} {enc : TypeId × Value → H}
set_option maxRecDepth 100000 in
theorem open_incs {W : World} {r : Reach} {b0 : Nat} {v : Value} {d : DataW H} {p : List MemPlace} {base : Nat} {spare : Nat → Bool} {held : Bool}
    (hv : Value.okWide Try.prog W r b0 54 v) (h : DataW.Trod enc Try.prog W base spare held 54 v d p) :
    ∃ (A : Option Addr) (xs : List IncT) (cap : Nat), v = .slice A xs.length cap ∧ IncsAt W W.heap.size A xs ∧ NodesAt W W.heap.size xs ∧ (∀ x ∈ xs, IncWf x) ∧ xs.length ≤ cap ∧ cap ≤ 9223372036854775807 ∧ (A = none → cap = 0) := by
  obtain ⟨A, len, cap, rfl⟩ := okWide_slice Try.underlying54 hv
  obtain ⟨fuel, hf⟩ := h
  obtain ⟨A', n, cap', e, h1, h2, h3, h4⟩ := recs_field Try.underlying54 Try.underlying65 (by kernel_rfl) (by kernel_rfl) (by decide) (by simpa [Value.cells] using hf)
  injection e with e1 e2 e3
  subst e1 e2 e3
  obtain ⟨xs, hl, hR⟩ := list_of' (fun i x => (∃ b o, A = some ⟨b, o, none⟩ ∧ b < W.heap.size ∧ ∀ (j : Nat) (v : Value), (cellsI x)[j]? = some v → W.cell? ⟨b, o + i * 10 + j, none⟩ = some v) ∧ Sl W W.heap.size x.nA (x.nodes.map (Value.int .i64)) ∧ IncWf x) len (fun i hi => by
    obtain ⟨b, o, e, hb, hg⟩ := h4 i hi
    obtain ⟨u0, _, _, c0, t0⟩ := hg 0 _ rfl
    obtain ⟨u1, _, _, c1, t1⟩ := hg 1 _ rfl
    obtain ⟨u2, _, _, c2, t2⟩ := hg 2 _ rfl
    obtain ⟨u3, _, _, c3, t3⟩ := hg 3 _ rfl
    obtain ⟨u4, _, _, c4, t4⟩ := hg 4 _ rfl
    obtain ⟨u5, _, _, c5, t5⟩ := hg 5 _ rfl
    obtain ⟨u6, _, _, c6, t6⟩ := hg 6 _ rfl
    obtain ⟨u7, _, _, c7, t7⟩ := hg 7 _ rfl
    obtain ⟨u8, _, _, c8, t8⟩ := hg 8 _ rfl
    obtain ⟨u9, _, _, c9, t9⟩ := hg 9 _ rfl
    obtain ⟨z0, e0, _, k0⟩ := DataW.trod_int Try.underlying2 t0
    obtain ⟨z1, e1, _, _⟩ := DataW.trod_int Try.underlying3 t1
    obtain ⟨s, e2, _, hs⟩ := DataW.trod_string Try.underlying9 t2
    obtain ⟨nA, ns, nc, rfl, m1, m2, m3, m4, m5⟩ := ints_field Try.underlying28 Try.underlying3 (by kernel_rfl) t3
    obtain ⟨z4, e4, _, _⟩ := DataW.trod_int Try.underlying3 t4
    obtain ⟨z5, e5, _, _⟩ := DataW.trod_int Try.underlying2 t5
    obtain ⟨cA, cs, cc, rfl, p1, p2, p3, p4, p5⟩ := ints_field Try.underlying25 Try.underlying2 (by kernel_rfl) t6
    obtain ⟨uA, us, uc, rfl, q1, q2, q3, q4, q5⟩ := ints_field Try.underlying28 Try.underlying3 (by kernel_rfl) t7
    obtain ⟨z8, e8, _, _⟩ := DataW.trod_int Try.underlying2 t8
    obtain ⟨bl, e9, _⟩ := DataW.trod_bool Try.underlying4 t9
    simp at e0 e1 e2 e4 e5 e8 e9
    subst e0 e1 e2 e4 e5 e8 e9
    refine ⟨⟨z0, z1, s, nA, ns, nc, z4, z5, cA, cs.length, cc, uA, us.length, uc, z8, bl⟩, ⟨b, o, e, hb, fun j v hj => ?_⟩, m1, ⟨k0, by unfold maxLen at hs; exact hs, m3, m4, m5, by simp only; omega, by simp only; omega⟩⟩
    match j, hj with
    | 0, hj => cases hj; exact c0
    | 1, hj => cases hj; exact c1
    | 2, hj => cases hj; exact c2
    | 3, hj => cases hj; exact c3
    | 4, hj => cases hj; exact c4
    | 5, hj => cases hj; exact c5
    | 6, hj => cases hj; exact c6
    | 7, hj => cases hj; exact c7
    | 8, hj => cases hj; exact c8
    | 9, hj => cases hj; exact c9
    | j + 10, hj => exact absurd (List.getElem?_eq_some_iff.1 hj).1 (by simp [cellsI]))
  refine ⟨A, xs, cap, by rw [hl], recsAt_of cellsI_len (by omega) (fun i a hi => (hR i a hi).1), fun x hx => ?_, fun x hx => ?_, by omega, by omega, h3⟩
  · obtain ⟨i, hi⟩ := List.mem_iff_getElem?.1 hx
    exact (hR i x hi).2.1
  · obtain ⟨i, hi⟩ := List.mem_iff_getElem?.1 hx
    exact (hR i x hi).2.2
end

/-- a is served before b. -/
def ltI (a b : IncT) : Prop := a.urg < b.urg ∨ (a.urg = b.urg ∧ (a.since < b.since ∨ (a.since = b.since ∧ a.id < b.id)))
instance (a b : IncT) : Decidable (ltI a b) := by unfold ltI; infer_instance
def insL : List IncT → IncT → List IncT
  | [], x => [x]
  | y :: P, x => if ltI x y then x :: y :: P else y :: insL P x
def sortK (xs : List IncT) : List IncT := xs.foldl insL []
theorem sortK_snoc (xs : List IncT) (x : IncT) : sortK (xs ++ [x]) = insL (sortK xs) x := by simp [sortK]
theorem insL_len (P : List IncT) (x : IncT) : (insL P x).length = P.length + 1 := by
  induction P with
  | nil => rfl
  | cons y P ih =>
    rw [insL]
    split
    · simp
    · simp [ih]
theorem sortK_len (xs : List IncT) : (sortK xs).length = xs.length := by
  have key : ∀ (xs P : List IncT), (xs.foldl insL P).length = P.length + xs.length := by
    intro xs
    induction xs with
    | nil => intro P; simp
    | cons x xs ih => intro P; rw [List.foldl_cons, ih, insL_len, List.length_cons]; omega
  simpa [sortK] using key xs []
theorem mem_insL {P : List IncT} {x y : IncT} : y ∈ insL P x ↔ y = x ∨ y ∈ P := by
  induction P with
  | nil => simp [insL]
  | cons z P ih =>
    rw [insL]
    split
    · simp
    · rw [List.mem_cons, ih, List.mem_cons]
      constructor
      · rintro (h | h | h)
        · exact .inr (.inl h)
        · exact .inl h
        · exact .inr (.inr h)
      · rintro (h | h | h)
        · exact .inr (.inl h)
        · exact .inl h
        · exact .inr (.inr h)
theorem mem_sortK {xs : List IncT} {y : IncT} : y ∈ sortK xs ↔ y ∈ xs := by
  have key : ∀ (xs P : List IncT), y ∈ xs.foldl insL P ↔ y ∈ xs ∨ y ∈ P := by
    intro xs
    induction xs with
    | nil => intro P; simp
    | cons x xs ih =>
      intro P
      rw [List.foldl_cons, ih, mem_insL, List.mem_cons]
      constructor
      · rintro (h | h | h)
        · exact .inl (.inr h)
        · exact .inl (.inl h)
        · exact .inr h
      · rintro ((h | h) | h)
        · exact .inr (.inl h)
        · exact .inl h
        · exact .inr (.inr h)
  simpa [sortK] using key xs []
def SortedI (P : List IncT) : Prop := P.Pairwise (fun a b => ¬ ltI b a)
theorem ltI_trans {x y z : IncT} (h : ltI x y) (h2 : ¬ ltI z y) : ltI x z := by
  unfold ltI at *
  omega
theorem ltI_asymm {x y : IncT} (h : ltI x y) : ¬ ltI y x := by
  unfold ltI at *
  omega
theorem insL_sorted {P : List IncT} {x : IncT} (h : SortedI P) : SortedI (insL P x) := by
  induction P with
  | nil => exact List.pairwise_singleton _ _
  | cons y P ih =>
    rw [SortedI, List.pairwise_cons] at h
    rw [insL]
    split
    · rename_i hlt
      refine List.pairwise_cons.2 ⟨fun z hz => ?_, List.pairwise_cons.2 h⟩
      rcases List.mem_cons.1 hz with rfl | hz
      · exact ltI_asymm hlt
      · exact ltI_asymm (ltI_trans hlt (h.1 z hz))
    · rename_i hlt
      refine List.pairwise_cons.2 ⟨fun z hz => ?_, ih h.2⟩
      rcases mem_insL.1 hz with rfl | hz
      · exact hlt
      · exact h.1 z hz
theorem sortK_sorted (xs : List IncT) : SortedI (sortK xs) := by
  have key : ∀ (xs P : List IncT), SortedI P → SortedI (xs.foldl insL P) := by
    intro xs
    induction xs with
    | nil => intro P h; exact h
    | cons x xs ih => intro P h; rw [List.foldl_cons]; exact ih _ (insL_sorted h)
  exact key xs [] List.Pairwise.nil
/-- where the insertion from the right stops is where that from the left stops. -/
theorem insL_at {x : IncT} : ∀ {P : List IncT} {j : Nat}, SortedI P → j ≤ P.length → (∀ y ∈ P.drop j, ltI x y) → (∀ y, P[j - 1]? = some y → 0 < j → ¬ ltI x y) → P.take j ++ x :: P.drop j = insL P x
  | [], j, _, hj, _, _ => by
    obtain rfl : j = 0 := by simpa using hj
    rfl
  | y :: P, 0, _, _, h1, _ => by
    rw [insL, if_pos (h1 y (by simp))]
    rfl
  | y :: P, j + 1, hs, hj, h1, h2 => by
    rw [SortedI, List.pairwise_cons] at hs
    have hny : ¬ ltI x y := by
      intro hlt
      by_cases h0 : j = 0
      · subst h0
        exact h2 y rfl (by omega) hlt
      · obtain ⟨z, hz⟩ : ∃ z, (y :: P)[j + 1 - 1]? = some z := ⟨(y :: P)[j + 1 - 1]'(by simp at hj ⊢; omega), by simp⟩
        refine h2 z hz (by omega) (ltI_trans hlt (hs.1 z ?_))
        have : P[j - 1]? = some z := by
          obtain ⟨q, rfl⟩ : ∃ q, j = q + 1 := ⟨j - 1, by omega⟩
          simpa using hz
        exact List.mem_of_getElem? this
    have ih := insL_at (x := x) (P := P) (j := j) hs.2 (by simpa using hj) (fun z hz => h1 z (by simpa using hz)) (fun z hz h0 => h2 z (by
      obtain ⟨q, rfl⟩ : ∃ q, j = q + 1 := ⟨j - 1, by omega⟩
      simpa using hz) (by omega))
    rw [insL, if_neg hny, ← ih]
    rfl

/-- the reference's insertion. -/
def stepF (x : IncT) (s : Bool × List IncT) (y : IncT) : Bool × List IncT := if s.1 = false ∧ ltI x y then (true, s.2 ++ [x] ++ [y]) else (s.1, s.2 ++ [y])
def endF (x : IncT) (s : Bool × List IncT) : List IncT := if s.1 = false then s.2 ++ [x] else s.2
theorem foldF_true (x : IncT) : ∀ (P N : List IncT), P.foldl (stepF x) (true, N) = (true, N ++ P)
  | [], N => by simp
  | y :: P, N => by
    rw [List.foldl_cons]
    have : stepF x (true, N) y = (true, N ++ [y]) := by simp [stepF]
    rw [this, foldF_true x P]
    simp
theorem endF_fold (x : IncT) : ∀ (P N : List IncT), endF x (P.foldl (stepF x) (false, N)) = N ++ insL P x
  | [], N => by simp [endF, insL]
  | y :: P, N => by
    rw [List.foldl_cons]
    by_cases h : ltI x y
    · have : stepF x (false, N) y = (true, N ++ [x] ++ [y]) := by simp [stepF, h]
      rw [this, foldF_true, insL, if_pos h]
      simp [endF]
    · have : stepF x (false, N) y = (false, N ++ [y]) := by simp [stepF, h]
      rw [this, endF_fold x P, insL, if_neg h]
      simp
theorem stepF_snoc (x : IncT) (P : List IncT) (y : IncT) (s : Bool × List IncT) : (P ++ [y]).foldl (stepF x) s = stepF x (P.foldl (stepF x) s) y := by simp

theorem fold_len (x : IncT) : ∀ (P : List IncT) (b : Bool) (N : List IncT), (P.foldl (stepF x) (b, N)).2.length ≤ N.length + 2 * P.length
  | [], b, N => by simp
  | y :: P, b, N => by
    rw [List.foldl_cons]
    unfold stepF
    split
    · have := fold_len x P true (N ++ [x] ++ [y])
      simp only [List.length_append, List.length_singleton] at this
      unfold stepF at this
      simp only [List.length_cons]
      omega
    · have := fold_len x P b (N ++ [y])
      simp only [List.length_append, List.length_singleton] at this
      unfold stepF at this
      simp only [List.length_cons]
      omega
def openI (x : IncT) : Bool := !x.closed && x.merged == 0
end Go.Proofs.Ytpomakmmjbimfaa
