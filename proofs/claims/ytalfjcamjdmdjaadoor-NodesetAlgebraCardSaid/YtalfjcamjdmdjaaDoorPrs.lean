/-
  nodeset.Parse: the walk.
-/
import Derived.Test.YtalfjcamjdmdjaaDoorPrsA
import Derived.RangeFuncWrites
namespace Go.Proofs.YtalfjcamjdmdjaaDoor
open Go.RowKit Go.Shelf
attribute [local go_sem] Oper.semAt_some

theorem seqC_any (s : ByteArray) (w : World) : Calls Tryd.prog 40 #[.string s, .string ⟨#[44]⟩] w fun e w' =>
    e = .returned (.func (.func 57) #[] #[.pointer (some ⟨w.heap.size + 1, 0, none⟩), .pointer (some ⟨w.heap.size, 0, none⟩), .pointer (some ⟨w.heap.size + 1 + 1, 0, none⟩)]) ∧ w' = ((w.alloc (.cells #[.string s] 9)).alloc (.cells #[.string ⟨#[44]⟩] 9)).alloc (.cells #[.int .i64 0] 3) := by
  have h : Calls Tryd.prog 51 #[.string s, .string ⟨#[44]⟩, .int .i64 0] w fun e w' =>
    e = .returned (.func (.func 57) #[] #[.pointer (some ⟨w.heap.size + 1, 0, none⟩), .pointer (some ⟨w.heap.size, 0, none⟩), .pointer (some ⟨w.heap.size + 1 + 1, 0, none⟩)]) ∧ w' = ((w.alloc (.cells #[.string s] 9)).alloc (.cells #[.string ⟨#[44]⟩] 9)).alloc (.cells #[.int .i64 0] 3) := by
    go_enter Tryd.func51, Tryd.ntmps51
    go_wp2_with fail
    go_ret
    exact ⟨rfl, rfl⟩
  go_enter Tryd.func40, Tryd.ntmps40
  go_wp2_with fail
  refine h.mono ?_
  rintro e w' ⟨rfl, rfl⟩
  go_wp2_with fail
  go_ret
  exact ⟨rfl, rfl⟩
theorem prs_ret {R : Ending → World → Prop} {w : World} {tmps : Array Value} {r : Nat} {W1 : World} {v : Option Addr} {c : Int} (Ds : List Nat) (h2 : tmps[2]? = some (.pointer (some ⟨r, 0, none⟩))) (h3 : tmps[3]? = some (.pointer (some ⟨r + 1, 0, none⟩)))
    (hD : ∀ D ∈ Ds, w.heap.size ≤ D ∧ W1.heap[D]? = some (.deferred (some []))) (hn : Ds.Nodup) (h : RSet w r v c W1) (hR : ∀ W', Only (fun k => k ∈ Ds) W1 W' → Below w.heap.size w W' → R (.returned (.tuple #[.agg #[.pointer v], .int .i64 c])) W') :
    LeavesInM Fence.wide 4 Tryd.prog Tryd.f17 tmps R (Ds.map mkD) .returning W1 := by
  refine leaves_marks Ds W1 (fun x hx => (hD x hx).2) hn fun W' hW' => ?_
  have hne : ∀ b, (∃ v t, W1.heap[b]? = some (.cells #[v] t (0, 0))) → b ∉ Ds := fun b ⟨v, t, hb⟩ hm => by
    rw [(hD b hm).2] at hb
    cases hb
  have h' : RSet w r v c W' := h.only hW' (hne _ ⟨_, _, h.c0⟩) (hne _ ⟨_, _, h.c1⟩) (hW'.below h.below.size (fun j e => (hD j e).1))
  have k0 := (one_cell h'.c0).1
  have k1 := (one_cell h'.c1).1
  refine ⟨_, ?_, hR W' hW' h'.below⟩
  simp [results, Tryd.results17, go_sem, h2, h3, k0, k1]
theorem lastR_bound : ∀ (R : List (Nat × Nat)) (p : Int), -2 ≤ p → p < 4096 → goodR p R → -2 ≤ lastR p R ∧ lastR p R < 4096
  | [], p, h1, h2, _ => ⟨h1, h2⟩
  | r :: R, p, _, _, h => by
    obtain ⟨_, b, c, d⟩ := h
    exact lastR_bound R r.2 (by omega) (by omega) d
/-- the loop's invariant. -/
def PrI (w : World) (r bb pb N : Nat) (zs : List ByteArray) (pre : List {z : ByteArray // z ∈ zs}) (X : World) : Prop := ∃ R, goodR (-2) R ∧ textR R = pre.map (fun z => dat z.1) ∧ PSt w r bb pb (runsW R) (lastR (-2) R) X ∧ N ≤ X.heap.size
/-- what stands where the loop is left. -/
def PrX (w : World) (r : Nat) (zs : List ByteArray) (c : Code) (pre : List {z : ByteArray // z ∈ zs}) (X : World) : Prop := c = .ret ∧ RSet w r none 2 X ∧ ∃ pre0 x R, pre = pre0 ++ [x] ∧ textR R = pre0.map (fun z => dat z.1) ∧ ∀ a b, a ≤ b → b < 4096 → runT a b = dat x.1 → ¬ lastR (-2) R + 1 < (a : Int)
theorem RSet.grown {w X X' : World} {r : Nat} {v : Option Addr} {c : Int} (h : RSet w r v c X) {B : Nat} (hB : r + 1 < B) {row : Option Nat} (hg : X.grownBy X' row) (hr : ∀ k, row = some k → B ≤ k ∧ ∃ o : Obj, X.heap[k]? = some o ∧ o.isCells = false) : RSet w r v c X' := by
  have hlow := h.low
  refine h.only (S := fun j => row = some j) (Only.of_grown hg (fun j e => e)) (fun e => ?_) (fun e => ?_) ((Below.refl _ _).grown hg h.below.size (fun k e => by have := (hr k e).1; omega))
  · have := (hr _ e).1; omega
  · have := (hr _ e).1; omega
theorem RSet.stays {w X : World} {r : Nat} {v : Option Addr} {c : Int} (h : RSet w r v c X) {sb : Nat} (hs : r + 1 < sb) (u : Value) : RSet w r v c (X.setCell ⟨sb, 0, none⟩ u) := by
  have hlow := h.low
  have ho : Only (fun b => b = sb) X (X.setCell ⟨sb, 0, none⟩ u) := Only.setCell (S := fun b => b = sb) Only.refl (a := ⟨sb, 0, none⟩) (fun _ => rfl) _
  exact h.only ho (by omega) (by omega) (ho.below h.below.size (fun j e => by have e : j = sb := e; omega))
theorem prs_body {w W W' : World} {B r bb pb bp sb bv gm N : Nat} {zs : List ByteArray} {pre : List {z : ByteArray // z ∈ zs}} {x : {z : ByteArray // z ∈ zs}} {R : List (Nat × Nat)} {a b : Nat} (h : PSt w r bb pb (runsW R) (lastR (-2) R) W) (hg : goodR (-2) R) (ht : textR R = pre.map (fun z => dat z.1)) (hx : runT a b = dat x.1) (hab : a ≤ b) (hb : b < 4096) (hl : lastR (-2) R + 1 < (a : Int))
    (h' : PSt w r bb pb (runW (runsW R) (a, b)) b W') (ho : Only (fun j => j = bb ∨ j = pb) W W') (z1 : pb < bp ∧ pb < sb ∧ pb < bv) (z2 : bp < N ∧ sb < N ∧ bv < N) (zN : N ≤ W.heap.size) (z3 : gm < w.heap.size) :
    KeepsFrom B W W' ∧ KeepFour bp sb bv gm W W' ∧ PrI w r bb pb N zs (pre ++ [x]) W' := by
  obtain ⟨l1, l2, l3⟩ := h.low
  have hz := h.below.size
  refine ⟨keeps_from ho (fun j s _ => ?_), ⟨ho.block _ (by omega) (by omega), ho.block _ (by omega) (by omega), ho.block _ (by omega) (by omega), ho.block _ (by omega) (by omega)⟩, R ++ [(a, b)], (goodR_snoc R _ _).2 ⟨hg, hl, hab, hb⟩, ?_, ?_, Nat.le_trans zN ho.size⟩
  · rcases s with e | e
    · exact (h.cells (.inr (.inr (.inl e)))).2.2
    · exact (h.cells (.inr (.inr (.inr e)))).2.2
  · unfold textR at ht ⊢
    rw [List.map_append, List.map_append, ht]
    simp [hx]
  · rw [runsW_snoc, lastR_snoc]
    exact h'
theorem prs_bad {w W W' : World} {B r bb pb : Nat} {zs : List ByteArray} {pre : List {z : ByteArray // z ∈ zs}} {x : {z : ByteArray // z ∈ zs}} {R : List (Nat × Nat)} (h : PSt w r bb pb (runsW R) (lastR (-2) R) W) (ht : textR R = pre.map (fun z => dat z.1)) (hb : ∀ a b, a ≤ b → b < 4096 → runT a b = dat x.1 → ¬ lastR (-2) R + 1 < (a : Int)) (h2 : RSet w r none 2 W') (ho : Only (fun j => j = r ∨ j = r + 1) W W') :
    KeepsFrom B W W' ∧ PrX w r zs .ret (pre ++ [x]) W' := by
  refine ⟨keeps_from ho (fun j s _ => ?_), rfl, h2, pre, x, R, rfl, ht, hb⟩
  rcases s with e | e
  · exact (h.cells (.inl e)).2.2
  · exact (h.cells (.inr (.inl e))).2.2
set_option maxRecDepth 100000 in
set_option maxHeartbeats 4000000 in
theorem parse_any (w : World) (s : ByteArray) (hs : s.size ≤ 1099511627) (hr : Ready6 w) : Calls Tryd.prog 17 #[.string s] w (RetPrs s.data.toList w) := by
  refine (callsIn_wide (n := 4)).1 ?_
  refine callsIn_of_wp_marks Tryd.func17 rfl trivial ?_ rfl
  simp only [Tryd.ntmps17, List.size_toArray, List.length_cons, List.length_nil, Nat.reduceAdd, Nat.reduceSub, Array.replicate_succ, Array.replicate_zero, List.push_toArray, List.append_toArray, List.nil_append, List.cons_append]
  have HR := Lib.hid hr
  clear hr
  by_cases he : s.toList.isEmpty = true
  · have he0 : s.data.toList = [] := by
      rw [ByteArray.toList_eq] at he
      simpa using he
    have HE := Lib.hid he0
    clear he0
    gi_wp2
    have hb : Below w.heap.size w ((w.alloc (.cells #[.pointer none] 30)).alloc (.cells #[.int .i64 0] 36)) := ((Below.refl _ _).alloc (Nat.le_refl _) _).alloc (by simp) _
    have h1 : (w.alloc (.cells #[.pointer none] 30)).heap[w.heap.size]? = some (.cells #[.pointer none] 30 (0, 0)) := heap_alloc_new w _
    have h2 : ((w.alloc (.cells #[.pointer none] 30)).alloc (.cells #[.int .i64 0] 36)).heap[w.heap.size + 1]? = some (.cells #[.int .i64 0] 36 (0, 0)) := by
      have := heap_alloc_new (w.alloc (.cells #[.pointer none] 30)) (.cells #[.int .i64 0] 36 (0, 0))
      rwa [World.size_alloc] at this
    have hrs : RSet w w.heap.size none 0 ((w.alloc (.cells #[.pointer none] 30)).alloc (.cells #[.int .i64 0] 36)) := by
      refine ⟨?_, h2, hb, Nat.le_refl _⟩
      rw [((Below.refl (w.heap.size + 1) (w.alloc (.cells #[.pointer none] 30))).alloc (by simp) (.cells #[.int .i64 0] 36)).block _ (by omega)]
      exact h1
    exact prs_ret [] rfl rfl (fun D hD => by cases hD) List.nodup_nil hrs fun W' _ hb' => ⟨hb', .inl ⟨HE.out, rfl⟩⟩
  · have he : s.toList.isEmpty = false := by simpa using he
    have he0 : s.data.toList ≠ [] := fun e => by
      rw [ByteArray.toList_eq, e] at he
      cases he
    have HNE := Lib.hid he0
    obtain ⟨w1, hw1⟩ : ∃ w1, w1 = w.alloc (.cells #[.pointer none] 30) := ⟨_, rfl⟩
    have e1 : w1.heap[w.heap.size]? = some (.cells #[.pointer none] 30 (0, 0)) := by rw [hw1]; exact heap_alloc_new w _
    have hb1 : Below w.heap.size w w1 := by rw [hw1]; exact (Below.refl _ _).alloc (Nat.le_refl _) _
    have hz1 : w1.heap.size = w.heap.size + 1 := by rw [hw1]; simp
    obtain ⟨w2, hw2⟩ : ∃ w2, w2 = w1.alloc (.cells #[.int .i64 0] 36) := ⟨_, rfl⟩
    have e2 : w2.heap[w.heap.size + 1]? = some (.cells #[.int .i64 0] 36 (0, 0)) := by rw [hw2, ← hz1]; exact heap_alloc_new w1 _
    have hb2 : Below w1.heap.size w1 w2 := by rw [hw2]; exact (Below.refl _ _).alloc (Nat.le_refl _) _
    have hz2 : w2.heap.size = w.heap.size + 1 + 1 := by rw [hw2]; simp [hz1]
    obtain ⟨w3, hw3⟩ : ∃ w3, w3 = w2.alloc (.cells (wcells zeros) 56) := ⟨_, rfl⟩
    have e3 : RowAt w3 (w.heap.size + 1 + 1) zeros := by rw [hw3, ← hz2]; exact rowAt_zeros w2
    have hb3 : Below w2.heap.size w2 w3 := by rw [hw3]; exact (Below.refl _ _).alloc (Nat.le_refl _) _
    have hz3 : w3.heap.size = w.heap.size + 1 + 1 + 1 := by rw [hw3]; simp [hz2]
    have hwz : wcells zeros = (List.replicate 64 (Value.int .u64 0)).toArray := by simp [wcells, zeros]
    rw [hwz] at hw3
    simp only [List.replicate_succ, List.replicate_zero] at hw3
    obtain ⟨W0, hW0⟩ : ∃ W0, W0 = w3.alloc (.cells #[.int .i64 (-2)] 3) := ⟨_, rfl⟩
    have e4 : W0.heap[w.heap.size + 1 + 1 + 1]? = some (.cells #[.int .i64 (-2)] 3 (0, 0)) := by rw [hW0, ← hz3]; exact heap_alloc_new w3 _
    have hb4 : Below w3.heap.size w3 W0 := by rw [hW0]; exact (Below.refl _ _).alloc (Nat.le_refl _) _
    have hz4 : W0.heap.size = w.heap.size + 1 + 1 + 1 + 1 := by rw [hW0]; simp [hz3]
    have hB0 : Below w.heap.size w W0 := hb1.trans ((hb2.trans ((hb3.trans (hb4.mono (by omega))).mono (by omega))).mono (by omega))
    have hS0 : PSt w w.heap.size (w.heap.size + 1 + 1) (w.heap.size + 1 + 1 + 1) zeros (-2) W0 := by
      refine ⟨(hb4.block _ (by omega)).trans e3, e4, ?_, ?_, hB0, Nat.le_refl _, by omega, by omega⟩
      · exact ((hb4.block _ (by omega)).trans ((hb3.block _ (by omega)).trans (hb2.block _ (by omega)))).trans e1
      · exact ((hb4.block _ (by omega)).trans (hb3.block _ (by omega))).trans e2
    have HW := Lib.hid (And.intro hw1 (And.intro hw2 (And.intro hw3 hW0)))
    have HS0 := Lib.hid (And.intro hS0 hz4)
    clear he0 hw1 hw2 hw3 hW0 e1 e2 e3 e4 hb1 hb2 hb3 hb4 hz1 hz2 hz3 hz4 hwz hB0 hS0
    gi_wp2
    rw [← HW.out.1, ← HW.out.2.1, ← HW.out.2.2.1, ← HW.out.2.2.2]
    refine ⟨trivial, (callsIn_wide.2 (seqC_any s _)).mono ?_⟩
    rintro e w' ⟨rfl, rfl⟩
    gi_wp2
    obtain ⟨hS0, hz4⟩ := HS0.out
    clear HW HS0 w1 w2 w3
    have hB0 := hS0.below
    have hl0 : Below W0.heap.size W0 (((W0.alloc (.cells #[.string s] 9)).alloc (.cells #[.string ⟨#[44]⟩] 9)).alloc (.cells #[.int .i64 0] 3)) := (((Below.refl _ _).alloc (Nat.le_refl _) _).alloc (by simp) _).alloc (by simp; omega) _
    have n1 := new_cell W0 (.string s) 9
    have n2 := new_cell (W0.alloc (.cells #[.string s] 9)) (.string ⟨#[44]⟩) 9
    have n3 := new_cell ((W0.alloc (.cells #[.string s] 9)).alloc (.cells #[.string ⟨#[44]⟩] 9)) (.int .i64 0) 3
    have m1 := old_cell (.cells #[.int .i64 0] 3) (old_cell (.cells #[.string ⟨#[44]⟩] 9) n1.1)
    have m2 := old_cell (.cells #[.int .i64 0] 3) n2.1
    have m3 := n3.1
    have m4 : (((W0.alloc (.cells #[.string s] 9)).alloc (.cells #[.string ⟨#[44]⟩] 9)).alloc (.cells #[.int .i64 0] 3)).frozen? ⟨W0.heap.size, 0, none⟩ = false := by
      rw [((Below.refl _ _).alloc (Nat.le_refl _) (.cells #[.int .i64 0] 3)).frozen (p := ⟨W0.heap.size, 0, none⟩) (by simp; omega), ((Below.refl _ _).alloc (Nat.le_refl _) (.cells #[.string ⟨#[44]⟩] 9)).frozen (p := ⟨W0.heap.size, 0, none⟩) (by simp)]
      exact n1.2
    rw [World.size_alloc] at m2
    rw [World.size_alloc, World.size_alloc] at m3
    have hlz : (((W0.alloc (.cells #[.string s] 9)).alloc (.cells #[.string ⟨#[44]⟩] 9)).alloc (.cells #[.int .i64 0] 3)).heap.size = W0.heap.size + 1 + 1 + 1 := by simp
    obtain ⟨Wl, hWl⟩ : ∃ Wl, Wl = ((W0.alloc (.cells #[.string s] 9)).alloc (.cells #[.string ⟨#[44]⟩] 9)).alloc (.cells #[.int .i64 0] 3) := ⟨_, rfl⟩
    rw [← hWl] at m1 m2 m3 m4 hl0 hlz ⊢
    have hSl := hS0.next hl0
    obtain ⟨mx, hmx⟩ := (HR.out.keep hSl.below HR.out.room).most
    have hgm : 1 < w.heap.size := Nat.lt_of_lt_of_le lt_max HR.out.room
    rw [hz4] at m1 m2 m3 m4 hlz ⊢
    obtain ⟨r, hrr⟩ : ∃ r, r = w.heap.size := ⟨_, rfl⟩
    obtain ⟨bb, hbb⟩ : ∃ b, b = r + 1 + 1 := ⟨_, rfl⟩
    obtain ⟨pb, hpb⟩ : ∃ b, b = r + 1 + 1 + 1 := ⟨_, rfl⟩
    obtain ⟨sb, hsb⟩ : ∃ b, b = r + 1 + 1 + 1 + 1 := ⟨_, rfl⟩
    obtain ⟨bp, hbp⟩ : ∃ b, b = r + 1 + 1 + 1 + 1 + 1 := ⟨_, rfl⟩
    obtain ⟨bv, hbv⟩ : ∃ b, b = r + 1 + 1 + 1 + 1 + 1 + 1 := ⟨_, rfl⟩
    have hSl : PSt w r bb pb zeros (-2) Wl := by rw [hpb, hbb, hrr]; exact hSl
    rw [← hrr] at m1 m2 m3 m4 hlz ⊢
    rw [← hbv, ← hbp, ← hsb, ← hpb, ← hbb]
    rw [← hsb] at m1 m4
    rw [← hbp] at m2
    rw [← hbv] at m3
    have hord : w.heap.size ≤ r ∧ r + 1 < bb ∧ bb < pb ∧ pb < sb ∧ sb < bp ∧ bp < bv ∧ bv < Wl.heap.size := by omega
    clear n1 n2 n3 hl0 hWl hS0 hB0 hz4 hlz hbb hpb hsb hbp hbv W0
    have HG := Lib.hid hrr
    clear hrr
    obtain ⟨o1, o2, o3, o4, o5, o6, o7⟩ := hord
    obtain ⟨zs, hzs⟩ : ∃ zs, zs = Lib.splitB ⟨#[44]⟩ 0 s.size s := ⟨_, rfl⟩
    have hix : ∀ (q : ByteArray) (W : World), q.size ≤ s.size → W.cell? ⟨1, 0, none⟩ = some (.int .i64 mx) → CallsIn Fence.wide 2 Tryd.prog 59 #[.string q, .string ⟨#[44]⟩] W fun e w' => e = .returned (.int .i64 (Lib.index q.data.toList (⟨#[44]⟩ : ByteArray).data.toList)) ∧ w' = W := fun q W hq hm => callsIn_wide.2 (Tryd.strings_Index q ⟨#[44]⟩ mx W (by omega) hm)
    refine wpIn_rangeFunc_state rfl (by omega) (gf := 57) (lb := #[.pointer (some ⟨bp, 0, none⟩), .pointer (some ⟨sb, 0, none⟩), .pointer (some ⟨bv, 0, none⟩)]) rfl trivial (enters_of Tryd.func57 (by kernel_rfl) rfl)
      (split_seq Fence.wide 3 trivial trivial rfl (by omega) bp sb bv 1 s ⟨#[44]⟩ 0 (by decide) (by decide) (by omega) (by omega) (by omega) (by omega) mx zs hzs hix Wl (by omega) (by omega) (by omega) (by omega) m2 m1 m3 m4 hmx)
      (by omega) KeepFour.trans (fun W l o o' hl _ _ _ => KeepFour.put (B := Wl.heap.size) (by omega) (by omega) (by omega) (by omega) W l o' hl) (Below.refl _ _) (fun _ => rfl)
      (PrI w r bb pb Wl.heap.size zs) (PrX w r zs) (fun _ _ _ _ ⟨R, h1, h2, h3, h4⟩ hg hr => ⟨R, h1, h2, h3.grown (B := Wl.heap.size) (by omega) hg hr, Nat.le_trans h4 hg.size⟩) (fun _ _ _ _ _ ⟨h1, h2, h3⟩ hg hr => ⟨h1, h2.grown (B := Wl.heap.size) (by omega) hg hr, h3⟩) (fun _ _ v ⟨R, h1, h2, h3, h4⟩ => ⟨R, h1, h2, h3.stays o4 v, by simpa using h4⟩) (fun _ _ _ v ⟨h1, h2, h3⟩ => ⟨h1, h2.stays (by omega) v, h3⟩) ⟨[], trivial, rfl, hSl, Nat.le_refl _⟩
      (fun x => { tmps := #[.string s, undef, .pointer (some ⟨r, 0, none⟩), .pointer (some ⟨r + 1, 0, none⟩), .pointer (some ⟨bb, 0, none⟩), .pointer (some ⟨pb, 0, none⟩), .string x.1, undef, undef, undef, undef, .string s, .bool false, undef, .string s, .func (.func 57) #[] #[.pointer (some ⟨bp, 0, none⟩), .pointer (some ⟨sb, 0, none⟩), .pointer (some ⟨bv, 0, none⟩)], .string x.1, undef, undef, undef, undef, undef, undef, undef, undef, undef, undef, undef, undef, undef, undef, undef, undef, undef, undef, undef, undef, undef, undef, undef, undef, undef], defers := [] }) ?assign ?body ?done ?stop
    case assign =>
      intro l y W K hK
      gi_wp2
      exact hK
    case stop =>
      rintro D c pre W hD hSp ⟨rfl, h2, pre0, x, R, rfl, ht, hb⟩ hm
      have HX := Lib.hid (reads_bad hzs hSp ht hb)
      clear hix
      gi_wp2
      exact prs_ret [D] rfl rfl (fun D' hD' => by rw [List.mem_singleton.1 hD']; exact ⟨by omega, hm⟩) (by simp) h2 fun W' _ hb' => ⟨hb', .inr (.inr ⟨HNE.out, HX.out, rfl⟩)⟩
    case done =>
      rintro D xs W hD rfl ⟨R, hgo, ht, h, _⟩ hm
      have hat : zs.attach.map (fun z : {z : ByteArray // z ∈ zs} => dat z.1) = zs.map dat := by
        have := congrArg (List.map dat) (List.attach_map_subtype_val zs)
        rwa [List.map_map] at this
      have HX := Lib.hid (reads_done hzs hgo (ht.trans hat))
      have hW := (runsW_ok hgo).1
      have HSO := Lib.hid (callsIn_wide (n := 3)|>.2 (setOf_any W bb _ hW h.row))
      have HH := Lib.hid (And.intro h (And.intro hW hm))
      clear hix h hm ht hat hW hgo hzs
      gi_wp2
      refine ⟨trivial, HSO.out.mono ?_⟩
      rintro e w5 ⟨v, rfl, hv, hb5⟩
      obtain ⟨h, hW, hm⟩ := HH.out
      have h5 := h.next hb5
      have hm5 := (hb5.block D (Array.getElem?_eq_some_iff.1 hm).1).trans hm
      obtain ⟨d0, d1⟩ := one_cell h5.c0
      obtain ⟨d2, d3⟩ := one_cell h5.c1
      have hs := h5.rset.set v 0
      have hm6 := (hs.2.block D (Array.getElem?_eq_some_iff.1 hm5).1 (by rintro (e | e) <;> omega)).trans hm5
      have HF := Lib.hid (And.intro hs (And.intro hm6 (And.intro hv hb5)))
      clear hs hm6 hv hb5 hm5 h5 h hW hm HSO
      gi_wp2
      obtain ⟨hs, hm6, hv, hb5⟩ := HF.out
      obtain ⟨h, hW, hm⟩ := HH.out
      refine prs_ret [D] rfl rfl (fun D' hD' => by rw [List.mem_singleton.1 hD']; exact ⟨by omega, hm6⟩) (by simp) hs.1 fun W' hW' hb' => ⟨hb', .inr (.inl ⟨R, v, HX.out, rfl, ?_⟩)⟩
      refine setAt_new (S := fun j => (j = r ∨ j = r + 1) ∨ j = D) hW h.row hv hb5 ((hs.2.mono fun j _ e => .inl e).trans (hW'.mono fun j _ e => .inr (List.mem_singleton.1 e)) (fun _ _ e => e)) ?_
      have hl := h.lt
      rintro ((e | e) | e) <;> omega
    case body =>
      rintro l pre x W ⟨R, hgo, ht, h, hN⟩ hlen
      have hxs : x.1.size ≤ 1099511627 := Nat.le_trans (zs_small hzs x.2) hs
      have HPR := Lib.hid (parseRun_any x.1 hxs W (HR.out.keep h.below HR.out.room))
      have HH := Lib.hid (And.intro h (And.intro hgo (And.intro ht hN)))
      clear hix hzs hSl hmx m1 m2 m3 m4 h hgo ht hN hlen hxs
      gi_wp2
      refine ⟨trivial, (CallsIn.inRound l (callsIn_wide.2 HPR.out)).mono ?_⟩
      rintro e w1 ⟨⟨a, b, hab, hb, hx, rfl⟩ | ⟨hnone, rfl⟩, hb1⟩
      · obtain ⟨h, hgo, ht, hN⟩ := HH.out
        have h1 := h.next hb1
        have hcp := (one_cell h1.cp).1
        have hfp := (one_cell h1.cp).2
        obtain ⟨q, hq⟩ : ∃ q, q = lastR (-2) R := ⟨_, rfl⟩
        have hqb : -2 ≤ q ∧ q < 4096 := by rw [hq]; exact lastR_bound R (-2) (by omega) (by omega) hgo
        rw [← hq] at hcp
        have HB1 := Lib.hid (And.intro hb1 (And.intro hx hq))
        by_cases hl : q + 1 < (a : Int)
        · have HL := Lib.hid hl
          have HW1 := Lib.hid (And.intro h1 (runsW_ok hgo).1)
          have hno : ¬ (a : Int) ≤ q + 1 := by omega
          have haz : a < 4096 := by omega
          clear h hgo ht hN h1 hb1 hx hq hl HPR
          gi_wp2
          gi_loopw [10] (fun v wr => ∃ k : Nat, k ≤ b + 1 - a ∧ v = .int .i64 ((a + k : Nat) : Int) ∧ PSt w r bb pb (addTo (runsW R) a k) q wr ∧ Only (fun j => j = bb) w1 wr) (fun v _ => (b + 1 - (intOf v).toNat))
          case atStart => exact ⟨0, Nat.zero_le _, rfl, by rw [HB1.out.2.2]; exact HW1.out.1, Only.refl⟩
          case round =>
            obtain ⟨k, hk, rfl, hst, hon⟩ := hrel
            by_cases hkl : a + k ≤ b
            · have hkl' : ((a + k : Nat) : Int) ≤ (b : Int) := by omega
              have HA := Lib.hid (add_any wr bb (a + k) _ (wds_addTo HW1.out.2 a k (by omega)) hst.row (by omega))
              have HS := Lib.hid (And.intro hst hon)
              clear hst hon
              gi_wp2
              refine ⟨trivial, (CallsIn.inRound l (callsIn_wide.2 HA.out)).mono ?_⟩
              rintro e w2 ⟨⟨v, rfl⟩, hrow2, ho2⟩
              have HS2 := Lib.hid (And.intro (HS.out.1.added hrow2 ho2) (HS.out.2.trans ho2 (fun _ _ s => s)))
              clear hrow2 ho2
              gi_wp2
              go_roundw
              case rel => exact ⟨k + 1, by omega, by go_num, HS2.out.1, HS2.out.2⟩
              case measure => simp [intOf]; omega
            · have hkl' : ¬ ((a + k : Nat) : Int) ≤ (b : Int) := by omega
              have hke : k = b + 1 - a := by omega
              obtain ⟨d0, d1⟩ := one_cell hst.cp
              have HS := Lib.hid (And.intro hst hon)
              clear hst hon
              gi_wp2
              obtain ⟨h, hgo, ht, hN⟩ := HH.out
              obtain ⟨hst, hon⟩ := HS.out
              obtain ⟨hb1, hx, hq⟩ := HB1.out
              obtain ⟨h5, q5⟩ := hst.setP b
              rw [hke] at h5
              exact prs_body h hgo ht hx hab hb (by rw [← hq]; exact HL.out) h5 (((Only.of_below hb1).trans hon (fun _ _ e => .inl e)).trans q5 (fun _ _ e => .inr e)) ⟨by omega, o4, by omega⟩ ⟨by omega, by omega, o7⟩ hN hgm
        · have hno : (a : Int) ≤ q + 1 := by omega
          obtain ⟨d0, d1⟩ := one_cell h1.c0
          obtain ⟨d2, d3⟩ := one_cell h1.c1
          have HS := Lib.hid (h1.rset.set none 2)
          have HNO : Hid (∀ a' b', a' ≤ b' → b' < 4096 → runT a' b' = dat x.1 → ¬ lastR (-2) R + 1 < (a' : Int)) := Lib.hid (fun a' b' _ _ e => by
            obtain ⟨e1, _⟩ := runT_inj (e.trans hx.symm)
            rw [e1, ← hq]
            exact hl)
          clear h hgo ht hN h1 hb1 hx hq hl HPR
          gi_wp2
          obtain ⟨h, hgo, ht, hN⟩ := HH.out
          obtain ⟨hb1, _⟩ := HB1.out
          exact prs_bad h ht (fun a' b' h1 h2 h3 => by have := HNO.out a' b' h1 h2 h3; omega) HS.out.1 ((Only.of_below hb1).trans HS.out.2 (fun _ _ e => e))
      · obtain ⟨h, hgo, ht, hN⟩ := HH.out
        have h1 := h.next hb1
        obtain ⟨d0, d1⟩ := one_cell h1.c0
        obtain ⟨d2, d3⟩ := one_cell h1.c1
        have HS := Lib.hid (h1.rset.set none 2)
        have HNO : Hid (∀ a' b', a' ≤ b' → b' < 4096 → runT a' b' = dat x.1 → ¬ lastR (-2) R + 1 < (a' : Int)) := Lib.hid (fun a' b' h1 h2 e => absurd e (hnone a' b' h1 h2))
        have HB1 := Lib.hid hb1
        clear h hgo ht hN h1 hb1 hnone HPR
        gi_wp2
        obtain ⟨h, hgo, ht, hN⟩ := HH.out
        exact prs_bad h ht (fun a' b' h1 h2 h3 => by have := HNO.out a' b' h1 h2 h3; omega) HS.out.1 ((Only.of_below HB1.out).trans HS.out.2 (fun _ _ e => e))
end Go.Proofs.YtalfjcamjdmdjaaDoor
