/-
  responseplan.Parse: the plan whose text it is, or ErrSyntax.
-/
import Derived.Test.YtcpplebgocbnhaaDoorFmtP
import Derived.Deep.RegionLaw
import Derived.Lib.AtoiErrMem
import Derived.Lib.AtoiAllCases
namespace Go.Proofs.YtcpplebgocbnhaaDoor
open Go.RowKit Go.Maps

/-- what Parse returns: the plan whose text s is; or the empty plan and ErrSyntax, where s is no plan's text. -/
def RetPlan (s : ByteArray) (w : World) (e : Ending) (w' : World) : Prop :=
  (∃ p : Plan, e = .returned (.tuple #[.agg #[.string p.code, .int .i64 p.urg, .slice p.kA p.kinds.length p.kc], .int .i64 0]) ∧ validB p = true ∧ textP p = s.data.toList ∧ PlanWf p ∧ Sl w' w'.heap.size p.kA (p.kinds.map (Value.int .i64)) ∧ Below w.heap.size w w') ∨
  (e = .returned (.tuple #[.agg #[.string ⟨#[]⟩, .int .i64 0, .slice none 0 0], .int .i64 2]) ∧ (∀ p : Plan, validB p = true → textP p ≠ s.data.toList) ∧ Below w.heap.size w w')

def twelve (s : ByteArray) : List ByteArray := Lib.splitB ⟨#[32]⟩ 0 (min 12 (s.size + 1) - 1) s
theorem twelve_any (s : ByteArray) (hs : s.size ≤ 1099511627) (w : World) (hr : Ready w) :
    Calls Tryd.prog 42 #[.string s, .string ⟨#[32]⟩, .int .i64 12] w fun e w' =>
      ∃ N, e = .returned (.slice (some ⟨w.heap.size, 0, none⟩) (twelve s).length N) ∧ (twelve s).length ≤ N ∧ w' = w.alloc (.cells (Lib.cellsOf (twelve s) N) 9) ∧ N ≤ 12 := by
  obtain ⟨m, hm⟩ := hr.most
  refine (Tryd.strings_SplitN s ⟨#[32]⟩ 12 m w (by omega) hm (by decide) (by omega) (by omega)).mono ?_
  rintro e w' ⟨rfl, rfl⟩
  refine ⟨_, rfl, ?_, rfl, ?_⟩
  · have := Lib.splitB_length_le ⟨#[32]⟩ 0 (min 12 (s.size + 1) - 1) s
    unfold twelve
    omega
  · omega
theorem twelve_text {p : Plan} {s : ByteArray} (hv : validB p = true) (h : textP p = s.data.toList) : (twelve s).map (·.data.toList) = wordsP p := by
  unfold twelve
  rw [Lib.splitB_data, ← h]
  exact split_text hv 10 (by omega) s.size (by rw [h]; simp)
theorem twelve_join (s : ByteArray) : Lib.join ((twelve s).map (·.data.toList)) [32] = s.data.toList := by
  unfold twelve
  rw [Lib.splitB_data]
  exact join_split _ _
theorem get_map {L : List ByteArray} {i : Nat} {x : ByteArray} (h : L[i]? = some x) : (L.map (·.data.toList))[i]? = some x.data.toList := by
  rw [List.getElem?_map, h]
  rfl

theorem atoi_dec {n : Int} (h0 : 1 ≤ n) (h1 : n ≤ 5) : Lib.atoiAll (Lib.decDigits n.toNat) = .ok n := by
  have : n = 1 ∨ n = 2 ∨ n = 3 ∨ n = 4 ∨ n = 5 := by omega
  rcases this with rfl | rfl | rfl | rfl | rfl <;> rw [dec_one (by omega) (by omega)] <;> rfl

/-- the plan that the pieces tell. -/
def planOf (L : List ByteArray) (n : Int) (A : Option Addr) (c : Nat) : Plan := ⟨L.getD 1 ⟨#[]⟩, n, A, (L.drop 3).map (fun x => kindNum x.data.toList), c⟩
theorem plan_text {s : ByteArray} {L : List ByteArray} (hL : L = twelve s) {n : Int} {A : Option Addr} {c : Nat} {a b : ByteArray} (h4 : 4 ≤ L.length) (h0 : L[0]? = some a) (ha : a.data.toList = planW) (h2 : L[2]? = some b) (hb : b.data.toList = Lib.itoa n) (hv : validB (planOf L n A c) = true) :
    textP (planOf L n A c) = s.data.toList := by
  rw [← twelve_join s, ← hL]
  obtain ⟨_, _, _, u1, _, _, _, hk⟩ := valid_parts hv
  unfold textP
  congr 1
  match L, h4 with
  | x0 :: x1 :: x2 :: r, _ =>
    simp only [List.getElem?_cons_zero, Option.some.injEq] at h0
    simp only [List.getElem?_cons_succ, List.getElem?_cons_zero, Option.some.injEq] at h2
    subst h0 h2
    unfold wordsP planOf
    simp only [List.map_cons, List.getD_cons_succ, List.getD_cons_zero, List.drop_succ_cons, List.drop_zero, List.map_map]
    rw [ha, hb, itoa_dec (show 0 ≤ n from by have : 1 ≤ n := u1; omega)]
    congr 1
    congr 1
    congr 1
    refine List.map_congr_left fun x hx => ?_
    refine name_num (hk _ ?_)
    unfold planOf
    simp only [List.drop_succ_cons, List.drop_zero]
    exact List.mem_map.2 ⟨x, hx, rfl⟩

theorem valid_same {p q : Plan} (h : SameP p q) : validB p = validB q := by
  obtain ⟨h1, h2, h3⟩ := h
  unfold validB
  rw [h1, h2, h3]
theorem plan_back {L : List ByteArray} {n : Int} {A : Option Addr} {c : Nat} {u : ByteArray} {p : Plan} (hv : validB p = true) (e : L.map (·.data.toList) = wordsP p) (hu : L[2]? = some u) (hok : Lib.atoiAll u.data.toList = .ok n) : SameP (planOf L n A c) p := by
  obtain ⟨_, _, _, u1, u2, _, _, hk⟩ := valid_parts hv
  have h4 : 3 ≤ L.length := by
    have := congrArg List.length e
    rw [List.length_map, words_len] at this
    omega
  match L, h4 with
  | x0 :: x1 :: x2 :: r, _ =>
    simp only [List.getElem?_cons_succ, List.getElem?_cons_zero, Option.some.injEq] at hu
    subst hu
    unfold wordsP at e
    simp only [List.map_cons, List.cons.injEq] at e
    obtain ⟨_, e1, e2, e3⟩ := e
    unfold planOf SameP
    simp only [List.getD_cons_succ, List.getD_cons_zero, List.drop_succ_cons, List.drop_zero]
    refine ⟨?_, ?_, ?_⟩
    · rw [bs_of x1, bs_of p.code, e1]
    · rw [e2, atoi_dec u1 u2] at hok
      injection hok with hok
      exact hok.symm
    · have : r.map (fun x => kindNum x.data.toList) = (r.map (·.data.toList)).map kindNum := by rw [List.map_map]; rfl
      rw [this, e3, List.map_map]
      have h2 : p.kinds.map (kindNum ∘ kindName) = p.kinds.map id := List.map_congr_left fun k hk' => num_name (hk k hk')
      rw [h2, List.map_id]

theorem OwnV.caps {α : Type} {f : α → Value} {w : World} {base : Nat} {e : TypeId} {A : Option Addr} {n c : Nat} {zs : List α} (h : OwnV f w base e (.slice A n c) zs) : zs.length ≤ c ∧ c ≤ 9223372036854775807 ∧ (A = none → c = 0) := by
  rcases h.2 with ⟨e1, e2⟩ | ⟨g4, c4, cur4, e1, _, _, e2, e3, _⟩
  · injection e1 with e3 e4 e5
    subst e3 e5
    exact ⟨by omega, by omega, fun _ => rfl⟩
  · injection e1 with e5 e6 e7
    subst e7
    refine ⟨e2, by unfold maxLen at e3; omega, fun q => ?_⟩
    rw [q] at e5
    cases e5

theorem Sl.setCell_away {w : World} {B : Nat} {A : Option Addr} {xs : List Value} (h : Sl w B A xs) {a : Addr} (ha : ∀ b o, A = some ⟨b, o, none⟩ → b ≠ a.block) (u : Value) : Sl (w.setCell a u) B A xs := fun j v hj => by
  obtain ⟨b, o, e, hb, hc⟩ := h j v hj
  refine ⟨b, o, e, hb, (World.cell?_setCell_other w a ⟨b, o + j, none⟩ u ?_).trans hc⟩
  intro q
  exact ha b o e (by rw [q])

/-- what Atoi returns. -/
def RetAtoi (l : List UInt8) (w : World) (e : Ending) (w' : World) : Prop :=
  ((∃ n, Lib.atoiAll l = .ok n ∧ e = .returned (.tuple #[.int .i64 n, .nilIface])) ∨ ((∀ n, Lib.atoiAll l ≠ .ok n) ∧ ∃ n N, e = .returned (.tuple #[.int .i64 n, .iface 91 (.pointer (some ⟨N, 0, none⟩))]))) ∧ Below w.heap.size w w'
theorem atoi_any (s : ByteArray) (hs : s.size ≤ 1099511627776) (w : World) (hr : Ready w) : Calls Tryd.prog 51 #[.string s] w (RetAtoi s.data.toList w) := by
  cases hp : Lib.atoiAll s.data.toList
  case ok n =>
    refine (Tryd.strconv_Atoi_ok s (by omega) n hp w).mono ?_
    rintro e w1 ⟨rfl, hb1⟩
    refine ⟨.inl ⟨n, hp, rfl⟩, ?_⟩
    rcases hb1 with rfl | ⟨t, rfl⟩
    · exact Below.refl _ _
    · exact Lib.bytesWorld_below _ _ _
  case range =>
    obtain ⟨tp, q, hv⟩ := hr.rng
    refine (Tryd.strconv_Atoi_range_var s (by omega) hp tp q w hv).mono ?_
    rintro e w1 ⟨N, rfl, _, _, hb⟩
    exact ⟨.inr ⟨(fun n h => by rw [hp] at h; cases h), _, N, rfl⟩, hb⟩
  obtain ⟨tp, q, hv⟩ := hr.syn
  refine (Any.strconv_Atoi_syntax_var Tryd.laysC172 s (by omega) hp tp q w hv).mono ?_
  rintro e w1 ⟨N, rfl, _, _, hb⟩
  exact ⟨.inr ⟨(fun n h => by rw [hp] at h; cases h), _, N, rfl⟩, hb⟩

/-- the kinds of the first k words behind the third. -/
def kindsK (L : List ByteArray) (k : Nat) : List Int := ((L.drop 3).take k).map (fun x => kindNum x.data.toList)
theorem kindsK_succ {L : List ByteArray} {k : Nat} {y : ByteArray} (h : L[3 + k]? = some y) : kindsK L (k + 1) = kindsK L k ++ [kindNum y.data.toList] := by
  unfold kindsK
  rw [take_snoc (show (L.drop 3)[k]? = some y by rw [List.getElem?_drop]; exact h)]
  simp
theorem kindsK_len (L : List ByteArray) (k : Nat) : (kindsK L k).length ≤ k := by
  unfold kindsK
  simp
  omega
theorem kindsK_wf (L : List ByteArray) (k : Nat) : ∀ z ∈ kindsK L k, (Lit.int .i64 z).wf = true := by
  intro z hz
  unfold kindsK at hz
  obtain ⟨x, _, rfl⟩ := List.mem_map.1 hz
  have := kindNum_range x.data.toList
  simp [Lit.wf, IntKind.min, IntKind.max, IntKind.signed, IntKind.bits]
  omega
theorem wf64 {n : Int} (h0 : -9223372036854775808 ≤ n) (h1 : n ≤ 9223372036854775807) : (Lit.int .i64 n).wf = true := by
  simp [Lit.wf, IntKind.min, IntKind.max, IntKind.signed, IntKind.bits]
  omega

/-- the plan under way, in block pb. -/
structure KindsAt (L : List ByteArray) (x : ByteArray) (n : Int) (pb : Nat) (w3 : World) (k : Nat) (v : Value) (wr : World) : Prop where
  c0 : wr.cell? ⟨pb, 0, none⟩ = some (.string x)
  c1 : wr.cell? ⟨pb, 1, none⟩ = some (.int .i64 n)
  c2 : wr.cell? ⟨pb, 2, none⟩ = some v
  f2 : wr.frozen? ⟨pb, 2, none⟩ = false
  own : OwnI wr (pb + 1) 3 v (kindsK L k)
  below : Below pb w3 wr
  lt : pb < wr.heap.size
theorem KindsAt.next {L : List ByteArray} {x : ByteArray} {n : Int} {pb : Nat} {w3 : World} {k : Nat} {v v2 : Value} {wr wx w4 : World} {z : Int} {y : ByteArray} (h : KindsAt L x n pb w3 k v wr) (hx : wx = wr.drew.alloc (.cells #[.int .i64 z] 3))
    (hown : OwnI w4 (pb + 1) 3 v2 (kindsK L k ++ [z])) (hg : wx.grownBy w4 v.ownBlock) (hy : L[3 + k]? = some y) (hz : z = kindNum y.data.toList) : w4.cell? ⟨pb, 2, none⟩ = some v ∧ w4.frozen? ⟨pb, 2, none⟩ = false ∧ KindsAt L x n pb w3 (k + 1) v2 (w4.setCell ⟨pb, 2, none⟩ v2) := by
  subst hx
  have hlt := h.lt
  have hz1 : pb + 1 ≤ (wr.drew.alloc (.cells #[.int .i64 z] 3)).heap.size := by rw [World.size_alloc]; show pb + 1 ≤ wr.heap.size + 1; omega
  have b1 : Below (pb + 1) wr (wr.drew.alloc (.cells #[.int .i64 z] 3)) := (Below.refl (pb + 1) wr).drew.alloc (by show pb + 1 ≤ wr.heap.size; omega) _
  have b2 : Below (pb + 1) wr w4 := b1.grown hg hz1 (fun j hj => h.own.ge_base j hj)
  have e0 := (b2.cell (p := ⟨pb, 0, none⟩) (Nat.lt_succ_self _)).trans h.c0
  have e1 := (b2.cell (p := ⟨pb, 1, none⟩) (Nat.lt_succ_self _)).trans h.c1
  have e2 := (b2.cell (p := ⟨pb, 2, none⟩) (Nat.lt_succ_self _)).trans h.c2
  have e3 := (b2.frozen (p := ⟨pb, 2, none⟩) (Nat.lt_succ_self _)).trans h.f2
  refine ⟨e2, e3, ⟨?_, ?_, ?_, ?_, ?_, ?_, ?_⟩⟩
  · exact (World.cell?_setCell_other w4 ⟨pb, 2, none⟩ ⟨pb, 0, none⟩ v2 (by simp)).trans e0
  · exact (World.cell?_setCell_other w4 ⟨pb, 2, none⟩ ⟨pb, 1, none⟩ v2 (by simp)).trans e1
  · exact World.cell?_setCell_same' _ _ _ (by rw [e2]; rfl)
  · rw [World.frozen?_setCell]
    exact e3
  · rw [kindsK_succ hy, ← hz]
    exact hown.setCell_below (by show pb < pb + 1; omega) _
  · exact (h.below.trans (b2.mono (Nat.le_succ _))).setCell (p := ⟨pb, 2, none⟩) (Nat.le_refl _) _
  · have := b2.size
    show pb < (w4.setCell _ _).heap.size
    simp
    omega

theorem ps_next {n : Nat} {u : ByteArray} {w1 W W' : World} (h : W.cell? ⟨n, 2, none⟩ = some (.string u) ∧ Ready W ∧ Below w1.heap.size w1 W) (hz : n < w1.heap.size) (hbi : Below W.heap.size W W') :
    W'.cell? ⟨n, 2, none⟩ = some (.string u) ∧ Ready W' ∧ Below w1.heap.size w1 W' :=
  have hl : n < W.heap.size := Nat.lt_of_lt_of_le hz h.2.2.size
  ⟨(hbi.cell (p := ⟨n, 2, none⟩) hl).trans h.1, h.2.1.below hbi, below_then h.2.2 hbi⟩

set_option maxRecDepth 100000 in
set_option maxHeartbeats 4000000 in
theorem parse31_any (s : ByteArray) (hs : s.size ≤ 1099511627) (w : World) (hr : Ready w) (hn : NamesAt w) :
    Calls Tryd.prog 29 #[.string s] w (RetPlan s w) := by
  have hroom := hr.room
  have HB0 := Lib.hid ((Below.refl w.heap.size w).alloc (Nat.le_refl _) (.cells #[.string ⟨#[]⟩, .int .i64 0, .slice none 0 0] 35))
  have hr0 := hr.below HB0.out
  have HN := Lib.hid hn
  have HR := Lib.hid hr
  clear hn hr
  go_enter Tryd.func29, Tryd.ntmps29
  go_wp2_with fail
  refine (twelve_any s hs _ hr0).mono ?_
  have hsm : ∀ x ∈ twelve s, x.size ≤ s.size := split_small ⟨#[32]⟩ (min 12 (s.size + 1) - 1) s
  obtain ⟨L, hL⟩ : ∃ L, L = twelve s := ⟨_, rfl⟩
  rw [← hL] at hsm ⊢
  have HL := Lib.hid hL
  have HSM := Lib.hid hsm
  clear hL hsm
  rintro e w1 ⟨N, rfl, hN, hw1, hN12⟩
  have hb1 : Below w.heap.size w w1 := by rw [hw1]; exact HB0.out.alloc (by simp) _
  have hr1 := HR.out.below hb1
  have hz0 : (w.alloc (.cells #[.string ⟨#[]⟩, .int .i64 0, .slice none 0 0] 35)).heap.size = w.heap.size + 1 := by simp
  have hcell : ∀ (k : Nat) p, L[k]? = some p → w1.cell? ⟨w.heap.size + 1, k, none⟩ = some (.string p) := by
    intro k p hp
    rw [hw1]
    have h1 := cells_at (N := N) hp
    have h2 : ((w.alloc (.cells #[.string ⟨#[]⟩, .int .i64 0, .slice none 0 0] 35)).alloc (Obj.cells (Lib.cellsOf L N) 9)).heap[w.heap.size + 1]? = some (Obj.cells (Lib.cellsOf L N) 9) := by
      rw [← hz0]
      exact Array.getElem?_push_size
    unfold World.cell?
    simp only [h2, h1]
    rfl
  have hz1 : w1.heap.size = w.heap.size + 2 := by rw [hw1]; simp
  have r0 : w1.cell? ⟨w.heap.size, 0, none⟩ = some (.string ⟨#[]⟩) := by rw [hw1]; simp
  have r1 : w1.cell? ⟨w.heap.size, 1, none⟩ = some (.int .i64 0) := by rw [hw1]; simp
  have r2 : w1.cell? ⟨w.heap.size, 2, none⟩ = some (.slice none 0 0) := by rw [hw1]; simp
  have f0 : ∀ k, w1.frozen? ⟨w.heap.size, k, none⟩ = false := by intro k; rw [hw1]; simp
  have HB1 := Lib.hid hb1
  have HCE := Lib.hid hcell
  have HZ1 := Lib.hid hz1
  have HF0 := Lib.hid f0
  have f00 := f0 0
  have f01 := f0 1
  have f02 := f0 2
  clear hw1 hb1 hcell hz1 hz0 f0
  simp only [World.size_alloc]
  by_cases h4 : L.length < 4
  · have hno : ∀ p : Plan, validB p = true → textP p ≠ s.data.toList := by
      intro p hv ht
      have e := twelve_text hv ht
      rw [← HL.out] at e
      have e2 := congrArg List.length e
      rw [List.length_map, words_len] at e2
      have := (valid_parts hv).2.2.2.2.2.1
      omega
    have HNO := Lib.hid hno
    clear hno
    have d1 : decide ((L.length : Int) < 4) = true := by simp; omega
    go_wp2_with fail
    refine bodyPost_ret (v := .tuple #[.agg #[.string ⟨#[]⟩, .int .i64 0, .slice none 0 0], .int .i64 2]) (by simp [results, Tryd.results29, go_sem, r0, r1, r2]) rfl (.inr ⟨rfl, HNO.out, (((HB1.out).setCell (p := ⟨w.heap.size, 0, none⟩) (Nat.le_refl _) _).setCell (p := ⟨w.heap.size, 1, none⟩) (Nat.le_refl _) _).setCell (p := ⟨w.heap.size, 2, none⟩) (Nat.le_refl _) _⟩)
  have d1 : decide ((L.length : Int) < 4) = false := by simp; omega
  by_cases h11 : 11 < L.length
  · have hno : ∀ p : Plan, validB p = true → textP p ≠ s.data.toList := by
      intro p hv ht
      have e := twelve_text hv ht
      rw [← HL.out] at e
      have e2 := congrArg List.length e
      rw [List.length_map, words_len] at e2
      have := (valid_parts hv).2.2.2.2.2.2.1
      omega
    have HNO := Lib.hid hno
    clear hno
    have d2 : decide ((11 : Int) < (L.length : Int)) = true := by simp; omega
    go_wp2_with fail
    refine bodyPost_ret (v := .tuple #[.agg #[.string ⟨#[]⟩, .int .i64 0, .slice none 0 0], .int .i64 2]) (by simp [results, Tryd.results29, go_sem, r0, r1, r2]) rfl (.inr ⟨rfl, HNO.out, (((HB1.out).setCell (p := ⟨w.heap.size, 0, none⟩) (Nat.le_refl _) _).setCell (p := ⟨w.heap.size, 1, none⟩) (Nat.le_refl _) _).setCell (p := ⟨w.heap.size, 2, none⟩) (Nat.le_refl _) _⟩)
  have d2 : decide ((11 : Int) < (L.length : Int)) = false := by simp; omega
  obtain ⟨a, ha⟩ : ∃ a, L[0]? = some a := ⟨L[0]'(by omega), by simp⟩
  obtain ⟨x, hx⟩ : ∃ x, L[1]? = some x := ⟨L[1]'(by omega), by simp⟩
  obtain ⟨u, hu⟩ : ∃ u, L[2]? = some u := ⟨L[2]'(by omega), by simp⟩
  have ca := HCE.out 0 a ha
  have cx := HCE.out 1 x hx
  have cu := HCE.out 2 u hu
  have hxs := HSM.out x (List.mem_of_getElem? hx)
  have hus := HSM.out u (List.mem_of_getElem? hu)
  have HA := Lib.hid ha
  have HX := Lib.hid hx
  have HU := Lib.hid hu
  clear ha hx hu
  by_cases hpl : a.data.toList = planW
  rotate_left
  · have hno : ∀ p : Plan, validB p = true → textP p ≠ s.data.toList := by
      intro p hv ht
      have e := twelve_text hv ht
      rw [← HL.out] at e
      have e2 := get_map HA.out
      rw [e] at e2
      unfold wordsP at e2
      simp only [List.getElem?_cons_zero, Option.some.injEq] at e2
      exact hpl e2.symm
    have HNO := Lib.hid hno
    clear hno
    have d3 : (a.toList == [112, 108, 97, 110]) = false := by rw [toL, beq_eq_false_iff_ne]; exact hpl
    clear hpl
    go_wp2_with fail
    refine bodyPost_ret (v := .tuple #[.agg #[.string ⟨#[]⟩, .int .i64 0, .slice none 0 0], .int .i64 2]) (by simp [results, Tryd.results29, go_sem, r0, r1, r2]) rfl (.inr ⟨rfl, HNO.out, (((HB1.out).setCell (p := ⟨w.heap.size, 0, none⟩) (Nat.le_refl _) _).setCell (p := ⟨w.heap.size, 1, none⟩) (Nat.le_refl _) _).setCell (p := ⟨w.heap.size, 2, none⟩) (Nat.le_refl _) _⟩)
  have d3 : (a.toList == [112, 108, 97, 110]) = true := by rw [toL, hpl]; rfl
  have HPL := Lib.hid hpl
  clear hpl
  go_wp2_with fail
  refine (atoi_any u (by omega) _ hr1).mono ?_
  rintro e w2 ⟨he, hb2⟩
  have hr2 := hr1.below hb2
  have g0 : w2.cell? ⟨w.heap.size, 0, none⟩ = some (.string ⟨#[]⟩) := (hb2.cell (p := ⟨w.heap.size, 0, none⟩) (by rw [HZ1.out]; show w.heap.size < _; omega)).trans r0
  have g1 : w2.cell? ⟨w.heap.size, 1, none⟩ = some (.int .i64 0) := (hb2.cell (p := ⟨w.heap.size, 1, none⟩) (by rw [HZ1.out]; show w.heap.size < _; omega)).trans r1
  have g2 : w2.cell? ⟨w.heap.size, 2, none⟩ = some (.slice none 0 0) := (hb2.cell (p := ⟨w.heap.size, 2, none⟩) (by rw [HZ1.out]; show w.heap.size < _; omega)).trans r2
  have k0 : w2.frozen? ⟨w.heap.size, 0, none⟩ = false := (hb2.frozen (p := ⟨w.heap.size, 0, none⟩) (by rw [HZ1.out]; show w.heap.size < _; omega)).trans f00
  have k1 : w2.frozen? ⟨w.heap.size, 1, none⟩ = false := (hb2.frozen (p := ⟨w.heap.size, 1, none⟩) (by rw [HZ1.out]; show w.heap.size < _; omega)).trans f01
  have k2 : w2.frozen? ⟨w.heap.size, 2, none⟩ = false := (hb2.frozen (p := ⟨w.heap.size, 2, none⟩) (by rw [HZ1.out]; show w.heap.size < _; omega)).trans f02
  have cx2 : w2.cell? ⟨w.heap.size + 1, 1, none⟩ = some (.string x) := (hb2.cell (p := ⟨w.heap.size + 1, 1, none⟩) (by rw [HZ1.out]; show w.heap.size + 1 < _; omega)).trans cx
  have cu2 : w2.cell? ⟨w.heap.size + 1, 2, none⟩ = some (.string u) := (hb2.cell (p := ⟨w.heap.size + 1, 2, none⟩) (by rw [HZ1.out]; show w.heap.size + 1 < _; omega)).trans cu
  have hz2 : w.heap.size + 1 < w2.heap.size := by have := hb2.size; rw [HZ1.out] at this; omega
  have HB12 := Lib.hid hb2
  have HB2 := Lib.hid (below_then HB1.out hb2)
  clear hb2 r0 r1 r2 f00 f01 f02 ca cx cu d1 d2 d3
  rcases he with ⟨n, hok, rfl⟩ | ⟨hbad, n, M, rfl⟩
  rotate_left
  · have hno : ∀ p : Plan, validB p = true → textP p ≠ s.data.toList := by
      intro p hv ht
      have e := twelve_text hv ht
      rw [← HL.out] at e
      have e2 := get_map HU.out
      rw [e] at e2
      unfold wordsP at e2
      simp only [List.getElem?_cons_succ, List.getElem?_cons_zero, Option.some.injEq] at e2
      obtain ⟨_, _, _, u1, u2, _⟩ := valid_parts hv
      exact hbad p.urg (by rw [← e2]; exact atoi_dec u1 u2)
    have HNO := Lib.hid hno
    clear hno
    clear hbad
    go_wp2_with fail
    go_quiet (fail)
    go_wp2_with fail
    refine bodyPost_ret (v := .tuple #[.agg #[.string ⟨#[]⟩, .int .i64 0, .slice none 0 0], .int .i64 2]) (by simp [results, Tryd.results29, go_sem, g0, g1, g2]) rfl (.inr ⟨rfl, HNO.out, (((below_then HB2.out (below_drewN w2 nq)).setCell (p := ⟨w.heap.size, 0, none⟩) (Nat.le_refl _) _).setCell (p := ⟨w.heap.size, 1, none⟩) (Nat.le_refl _) _).setCell (p := ⟨w.heap.size, 2, none⟩) (Nat.le_refl _) _⟩)
  obtain ⟨nb0, nb1⟩ := Lib.atoiAll_bounds hok
  have HOK := Lib.hid hok
  clear hok
  go_wp2_with fail
  have HS5 : ∀ W : World, Below w2.heap.size w2 W → W.cell? ⟨w.heap.size + 1, 2, none⟩ = some (.string u) ∧ Ready W ∧ Below w2.heap.size w2 W := fun W hW => ⟨(hW.cell (p := ⟨w.heap.size + 1, 2, none⟩) hz2).trans cu2, hr2.below hW, hW⟩
  have i2 : (2 : Int) < (L.length : Int) := by omega
  have HHS5 := Lib.hid HS5
  clear HS5
  by_cases hq : Lib.itoa n = u.data.toList
  rotate_left
  · have d5 : ((bs (Lib.itoa n)).toList == u.toList) = false := by rw [toL_bs, toL, beq_eq_false_iff_ne]; exact hq
    have hno : ∀ p : Plan, validB p = true → textP p ≠ s.data.toList := by
      intro p hv ht
      have e := twelve_text hv ht
      rw [← HL.out] at e
      have e2 := get_map HU.out
      rw [e] at e2
      unfold wordsP at e2
      simp only [List.getElem?_cons_succ, List.getElem?_cons_zero, Option.some.injEq] at e2
      obtain ⟨_, _, _, u1, u2, _⟩ := valid_parts hv
      have h1 := HOK.out
      rw [← e2, atoi_dec u1 u2] at h1
      injection h1 with h1
      apply hq
      rw [← h1, itoa_dec (by omega), e2]
    have HNO := Lib.hid hno
    clear hno
    clear hq
    go_region_held3 (fun w' => w'.cell? ⟨w.heap.size + 1, 2, none⟩ = some (.string u) ∧ Ready w' ∧ Below w2.heap.size w2 w')
        (first | assumption | exact HHS5.out _ (below_drewN w2 1) | exact ps_next (by assumption) hz2 hbi | exact ps_next (by assumption) hz2 ((Below.refl _ _).alloc (Nat.le_refl _) _))
        (first | (go_at_call 48; refine (itoa_any _ (by omega) (by omega) _ ?_).mono ?_; (exact And.left (And.right ‹_ ∧ Ready _ ∧ _›)); rintro e w' ⟨rfl, hbi⟩))
    rename_i hheld
    have hb3 : Below w2.heap.size w2 w' := hheld.2.2
    clear hheld
    try clear hbi
    have q0 : w'.cell? ⟨w.heap.size, 0, none⟩ = some (.string ⟨#[]⟩) := (hb3.cell (p := ⟨w.heap.size, 0, none⟩) (by show w.heap.size < _; omega)).trans g0
    have q1 : w'.cell? ⟨w.heap.size, 1, none⟩ = some (.int .i64 0) := (hb3.cell (p := ⟨w.heap.size, 1, none⟩) (by show w.heap.size < _; omega)).trans g1
    have q2 : w'.cell? ⟨w.heap.size, 2, none⟩ = some (.slice none 0 0) := (hb3.cell (p := ⟨w.heap.size, 2, none⟩) (by show w.heap.size < _; omega)).trans g2
    have l0 : w'.frozen? ⟨w.heap.size, 0, none⟩ = false := (hb3.frozen (p := ⟨w.heap.size, 0, none⟩) (by show w.heap.size < _; omega)).trans k0
    have l1 : w'.frozen? ⟨w.heap.size, 1, none⟩ = false := (hb3.frozen (p := ⟨w.heap.size, 1, none⟩) (by show w.heap.size < _; omega)).trans k1
    have l2 : w'.frozen? ⟨w.heap.size, 2, none⟩ = false := (hb3.frozen (p := ⟨w.heap.size, 2, none⟩) (by show w.heap.size < _; omega)).trans k2
    have cx3 : w'.cell? ⟨w.heap.size + 1, 1, none⟩ = some (.string x) := (hb3.cell (p := ⟨w.heap.size + 1, 1, none⟩) hz2).trans cx2
    have hz3 : w.heap.size + 1 < w'.heap.size := by have := hb3.size; omega
    have HB23 := Lib.hid (below_then HB12.out hb3)
    have HB3 := Lib.hid (below_then HB2.out hb3)
    clear hb3 g0 g1 g2 k0 k1 k2 cx2 cu2 hr2
    go_wp2_with fail
    refine bodyPost_ret (v := .tuple #[.agg #[.string ⟨#[]⟩, .int .i64 0, .slice none 0 0], .int .i64 2]) (by simp [results, Tryd.results29, go_sem, q0, q1, q2]) rfl (.inr ⟨rfl, HNO.out, (((HB3.out).setCell (p := ⟨w.heap.size, 0, none⟩) (Nat.le_refl _) _).setCell (p := ⟨w.heap.size, 1, none⟩) (Nat.le_refl _) _).setCell (p := ⟨w.heap.size, 2, none⟩) (Nat.le_refl _) _⟩)
  have d5 : ((bs (Lib.itoa n)).toList == u.toList) = true := by rw [toL_bs, toL, hq, beq_self_eq_true]
  have HQ := Lib.hid hq
  clear hq
  go_region_held3 (fun w' => w'.cell? ⟨w.heap.size + 1, 2, none⟩ = some (.string u) ∧ Ready w' ∧ Below w2.heap.size w2 w')
      (first | assumption | exact HHS5.out _ (below_drewN w2 1) | exact ps_next (by assumption) hz2 hbi | exact ps_next (by assumption) hz2 ((Below.refl _ _).alloc (Nat.le_refl _) _))
      (first | (go_at_call 48; refine (itoa_any _ (by omega) (by omega) _ ?_).mono ?_; (exact And.left (And.right ‹_ ∧ Ready _ ∧ _›)); rintro e w' ⟨rfl, hbi⟩))
  rename_i hheld
  have hb3 : Below w2.heap.size w2 w' := hheld.2.2
  clear hheld
  try clear hbi
  have q0 : w'.cell? ⟨w.heap.size, 0, none⟩ = some (.string ⟨#[]⟩) := (hb3.cell (p := ⟨w.heap.size, 0, none⟩) (by show w.heap.size < _; omega)).trans g0
  have q1 : w'.cell? ⟨w.heap.size, 1, none⟩ = some (.int .i64 0) := (hb3.cell (p := ⟨w.heap.size, 1, none⟩) (by show w.heap.size < _; omega)).trans g1
  have q2 : w'.cell? ⟨w.heap.size, 2, none⟩ = some (.slice none 0 0) := (hb3.cell (p := ⟨w.heap.size, 2, none⟩) (by show w.heap.size < _; omega)).trans g2
  have l0 : w'.frozen? ⟨w.heap.size, 0, none⟩ = false := (hb3.frozen (p := ⟨w.heap.size, 0, none⟩) (by show w.heap.size < _; omega)).trans k0
  have l1 : w'.frozen? ⟨w.heap.size, 1, none⟩ = false := (hb3.frozen (p := ⟨w.heap.size, 1, none⟩) (by show w.heap.size < _; omega)).trans k1
  have l2 : w'.frozen? ⟨w.heap.size, 2, none⟩ = false := (hb3.frozen (p := ⟨w.heap.size, 2, none⟩) (by show w.heap.size < _; omega)).trans k2
  have cx3 : w'.cell? ⟨w.heap.size + 1, 1, none⟩ = some (.string x) := (hb3.cell (p := ⟨w.heap.size + 1, 1, none⟩) hz2).trans cx2
  have hz3 : w.heap.size + 1 < w'.heap.size := by have := hb3.size; omega
  have HB23 := Lib.hid (below_then HB12.out hb3)
  have HB3 := Lib.hid (below_then HB2.out hb3)
  clear hb3 g0 g1 g2 k0 k1 k2 cx2 cu2 hr2
  have hN4 : (3 : Int) ≤ (L.length : Int) := by omega
  have hN5 : ¬ N = 3 := by omega
  have hN6 : (3 : Int) ≤ (N : Int) := by omega
  have i1 : (1 : Int) < (L.length : Int) := by omega
  have HNM := Lib.hid (HN.out.keep HB3.out hroom)
  have hroom3 : Tryd.prog.globals.size ≤ w'.heap.size := by omega
  have hML : L.length - 3 + 3 = L.length := by omega
  go_wp2_with fail
  have hst : KindsAt L x n w'.heap.size w' 0 (.slice none 0 0) (w'.alloc (.cells #[.string x, .int .i64 n, .slice none 0 0] 35)) :=
    ⟨by simp, by simp, by simp, by simp, OwnV.nil _ _ _, (Below.refl _ _).alloc (Nat.le_refl _) _, by simp⟩
  have HST := Lib.hid hst
  obtain ⟨M, hM⟩ : ∃ M, M = L.length - 3 := ⟨_, rfl⟩
  rw [← hM] at hML ⊢
  have hM8 : M ≤ 8 := by omega
  have HML := Lib.hid hML
  clear hM hst hML
  go_loopw [53] (fun iv wr => ∃ k : Nat, k ≤ M ∧ iv = .int .i64 k ∧ ∃ v, KindsAt L x n w'.heap.size w' k v wr) (fun i _ => M - (intOf i).toNat)
  case atStart => exact ⟨0, Nat.zero_le _, rfl, _, HST.out⟩
  case round =>
    obtain ⟨k, hk, rfl, v, hat⟩ := hrel
    have e2 := hat.c2
    have ef := hat.f2
    have HAT := Lib.hid hat
    clear hat
    by_cases hlt : k < M
    · obtain ⟨y, hy⟩ : ∃ y, L[3 + k]? = some y := ⟨L[3 + k]'(by rw [← HML.out]; omega), by simp⟩
      have cy : wr.cell? ⟨w.heap.size + 1, 3 + k, none⟩ = some (.string y) := (HAT.out.below.cell (p := ⟨w.heap.size + 1, 3 + k, none⟩) hz3).trans ((HB23.out.cell (p := ⟨w.heap.size + 1, 3 + k, none⟩) (by rw [HZ1.out]; show w.heap.size + 1 < _; omega)).trans (HCE.out _ _ hy))
      have HY := Lib.hid hy
      have HNR : Hid (NamesAt wr.drew) := Lib.hid ((HNM.out.keep HAT.out.below hroom3).keep ((Below.refl _ wr).drew) hroom3)
      have HLK := Lib.hid (kindsK_len L k)
      have HO1 : Hid (OwnI (wr.drew.alloc (.cells #[.int .i64 (kindNum y.data.toList)] 3)) (w'.heap.size + 1) 3 v (kindsK L k)) := Lib.hid (HAT.out.own.drew.alloc _)
      have HSL : Hid (Sl (wr.drew.alloc (.cells #[.int .i64 (kindNum y.data.toList)] 3)) (wr.drew.alloc (.cells #[.int .i64 (kindNum y.data.toList)] 3)).heap.size (some ⟨wr.heap.size, 0, none⟩) ([kindNum y.data.toList].map (Value.int .i64))) := Lib.hid (Sl.lit wr.drew [.int .i64 (kindNum y.data.toList)] 3 rfl)
      have HSZ : Hid (w'.heap.size + 1 ≤ (wr.drew.alloc (.cells #[.int .i64 (kindNum y.data.toList)] 3)).heap.size) := Lib.hid (by have := HAT.out.lt; rw [World.size_alloc]; show _ ≤ wr.heap.size + 1; omega)
      have e2a : (wr.drew.alloc (.cells #[.int .i64 (kindNum y.data.toList)] 3)).cell? ⟨w'.heap.size, 2, none⟩ = some v := (World.cell?_alloc_lt wr.drew _ ⟨w'.heap.size, 2, none⟩ HAT.out.lt).trans e2
      have hlt0 := HAT.out.lt
      have hne0 : ¬ w'.heap.size = wr.heap.size := by omega
      clear hy
      go_wp2_with fail
      go_region_law (first
        | (refine step_append_sl _ rfl (.tmp 58) (.tmp 61) 33 rfl 3 Tryd.underlying33 int_info rfl (by omega) (w'.heap.size + 1) v (kindsK L k) rfl HO1.out _ _ 1 1 [kindNum y.data.toList] rfl rfl (by simp) HSL.out (by intro y _; rfl) (by have := HLK.out; simp; omega) HSZ.out ?_; intro v2 w4 hown2 hg; obtain ⟨A2, c2, rfl, _⟩ := hown2.sl; obtain ⟨t1, t2, t3⟩ := HAT.out.next rfl hown2 hg HY.out rfl; have HT3 := Lib.hid t3; clear t3 hown2 hg)
        | (go_simp; go_at_call 52; refine (kindOf_any y _ HNR.out).mono ?_; rintro e w5 ⟨rfl, rfl⟩))
      all_goals
        go_wp2_with fail
        go_roundw
        case rel =>
          have h := HT3.out
          rw [show (kindsK L k ++ [kindNum y.data.toList]).length = (kindsK L k).length + 1 by simp] at h
          exact ⟨k + 1, by omega, by go_num, _, h⟩
        case measure => simp [intOf]; omega
    · have hkk : k = M := by omega
      subst hkk
      obtain ⟨A, c, rfl, hsl⟩ := HAT.out.own.sl
      obtain ⟨hc1, hc2, hc3⟩ := HAT.out.own.caps
      have HAW : Hid (∀ b o, A = some ⟨b, o, none⟩ → b ≠ w.heap.size) := Lib.hid (fun b o e => by subst e; have := HAT.out.own.ge_base b rfl; omega)
      have hkf : kindsK L k = (L.drop 3).map (fun x => kindNum x.data.toList) := by
        unfold kindsK
        rw [List.take_of_length_le (by rw [List.length_drop, ← HML.out]; omega)]
      have hcode : (planOf L n A c).code = x := by
        unfold planOf
        simp [HX.out]
      have hkin : (planOf L n A c).kinds = kindsK L k := by rw [hkf]; rfl
      have hwf : PlanWf (planOf L n A c) := by
        refine ⟨?_, wf64 nb0 nb1, ?_, ?_, hc2, hc3⟩
        · rw [hkin]; exact kindsK_wf L k
        · rw [hcode]; omega
        · rw [hkin]; exact hc1
      have hslp : Sl wr wr.heap.size (planOf L n A c).kA ((planOf L n A c).kinds.map (Value.int .i64)) := by rw [hkin]; exact hsl
      have hvalid := valid_any (planOf L n A c) wr hslp hwf
      have hB := HAT.out.below
      have e0 := HAT.out.c0
      have e1 := HAT.out.c1
      have q0' : wr.cell? ⟨w.heap.size, 0, none⟩ = some (.string ⟨#[]⟩) := (hB.cell (p := ⟨w.heap.size, 0, none⟩) (by show w.heap.size < _; omega)).trans q0
      have q1' : wr.cell? ⟨w.heap.size, 1, none⟩ = some (.int .i64 0) := (hB.cell (p := ⟨w.heap.size, 1, none⟩) (by show w.heap.size < _; omega)).trans q1
      have q2' : wr.cell? ⟨w.heap.size, 2, none⟩ = some (.slice none 0 0) := (hB.cell (p := ⟨w.heap.size, 2, none⟩) (by show w.heap.size < _; omega)).trans q2
      have l0' : wr.frozen? ⟨w.heap.size, 0, none⟩ = false := (hB.frozen (p := ⟨w.heap.size, 0, none⟩) (by show w.heap.size < _; omega)).trans l0
      have l1' : wr.frozen? ⟨w.heap.size, 1, none⟩ = false := (hB.frozen (p := ⟨w.heap.size, 1, none⟩) (by show w.heap.size < _; omega)).trans l1
      have l2' : wr.frozen? ⟨w.heap.size, 2, none⟩ = false := (hB.frozen (p := ⟨w.heap.size, 2, none⟩) (by show w.heap.size < _; omega)).trans l2
      have hzr : w.heap.size < wr.heap.size := by have := hB.size; omega
      have hpz := HAT.out.lt
      have HBR := Lib.hid (HB3.out.trans (hB.mono (by omega)))
      have HWF := Lib.hid hwf
      have HSLP := Lib.hid hslp
      rw [hcode, show (planOf L n A c).kinds.length = (kindsK L k).length by rw [hkin]] at hvalid
      have HCODE := Lib.hid hcode
      have HKIN := Lib.hid (show (planOf L n A c).kinds.length = (kindsK L k).length by rw [hkin])
      have hvalid2 : Calls Tryd.prog 47 #[.agg #[.string x, .int .i64 n, .slice A (kindsK L k).length c]] wr fun e w' => e = .returned (.bool (validB (planOf L n A c))) ∧ Below wr.heap.size wr w' := hvalid
      have HVAL := Lib.hid hvalid2
      clear hvalid hvalid2 hkf hcode hkin hwf hslp hsl hB q0 q1 q2 l0 l1 l2
      go_wp2_with fail
      refine HVAL.out.mono ?_
      rintro e w6 ⟨rfl, hb6⟩
      have p0 : w6.cell? ⟨w.heap.size, 0, none⟩ = some (.string ⟨#[]⟩) := (hb6.cell (p := ⟨w.heap.size, 0, none⟩) hzr).trans q0'
      have p1 : w6.cell? ⟨w.heap.size, 1, none⟩ = some (.int .i64 0) := (hb6.cell (p := ⟨w.heap.size, 1, none⟩) hzr).trans q1'
      have p2 : w6.cell? ⟨w.heap.size, 2, none⟩ = some (.slice none 0 0) := (hb6.cell (p := ⟨w.heap.size, 2, none⟩) hzr).trans q2'
      have m0 : w6.frozen? ⟨w.heap.size, 0, none⟩ = false := (hb6.frozen (p := ⟨w.heap.size, 0, none⟩) hzr).trans l0'
      have m1 : w6.frozen? ⟨w.heap.size, 1, none⟩ = false := (hb6.frozen (p := ⟨w.heap.size, 1, none⟩) hzr).trans l1'
      have m2 : w6.frozen? ⟨w.heap.size, 2, none⟩ = false := (hb6.frozen (p := ⟨w.heap.size, 2, none⟩) hzr).trans l2'
      have o0 : w6.cell? ⟨w'.heap.size, 0, none⟩ = some (.string x) := (hb6.cell (p := ⟨w'.heap.size, 0, none⟩) hpz).trans e0
      have o1 : w6.cell? ⟨w'.heap.size, 1, none⟩ = some (.int .i64 n) := (hb6.cell (p := ⟨w'.heap.size, 1, none⟩) hpz).trans e1
      have o2 : w6.cell? ⟨w'.heap.size, 2, none⟩ = some (.slice A (kindsK L k).length c) := (hb6.cell (p := ⟨w'.heap.size, 2, none⟩) hpz).trans e2
      have HB6 := Lib.hid (below_then HBR.out hb6)
      have HSL6 := Lib.hid ((HSLP.out.below hb6).more hb6.size)
      clear hb6 q0' q1' q2' l0' l1' l2' e0 e1 e2 ef
      cases hv : validB (planOf L n A c)
      · have HV := Lib.hid hv
        clear hv
        have hno : ∀ p : Plan, validB p = true → textP p ≠ s.data.toList := by
          intro p hv ht
          have e := twelve_text hv ht
          rw [← HL.out] at e
          have h1 := valid_same (plan_back (A := A) (c := c) hv e HU.out HOK.out)
          rw [HV.out, hv] at h1
          cases h1
        have HNO := Lib.hid hno
        clear hno
        go_wp2_with fail
        refine bodyPost_ret (v := .tuple #[.agg #[.string ⟨#[]⟩, .int .i64 0, .slice none 0 0], .int .i64 2]) (by simp [results, Tryd.results29, go_sem, p0, p1, p2]) rfl (.inr ⟨rfl, HNO.out, (((HB6.out).setCell (p := ⟨w.heap.size, 0, none⟩) (Nat.le_refl _) _).setCell (p := ⟨w.heap.size, 1, none⟩) (Nat.le_refl _) _).setCell (p := ⟨w.heap.size, 2, none⟩) (Nat.le_refl _) _⟩)
      · have HV := Lib.hid hv
        have HT := Lib.hid (plan_text HL.out (A := A) (c := c) (by omega) HA.out HPL.out HU.out HQ.out.symm hv)
        clear hv
        go_wp2_with fail
        refine bodyPost_ret (v := .tuple #[.agg #[.string x, .int .i64 n, .slice A (kindsK L k).length c], .int .i64 0]) (by simp [results, Tryd.results29, go_sem, p0, p1, p2]) rfl (.inl ⟨planOf L n A c, ?_, HV.out, HT.out, HWF.out, ?_, ?_⟩)
        · rw [HCODE.out, HKIN.out]
          rfl
        · have h := ((HSL6.out.setCell_away (a := ⟨w.heap.size, 0, none⟩) HAW.out (.string x)).setCell_away (a := ⟨w.heap.size, 1, none⟩) HAW.out (.int .i64 n)).setCell_away (a := ⟨w.heap.size, 2, none⟩) HAW.out (.slice A (kindsK L k).length c)
          refine h.more ?_
          simp
        · exact ((HB6.out.setCell (p := ⟨w.heap.size, 0, none⟩) (Nat.le_refl _) _).setCell (p := ⟨w.heap.size, 1, none⟩) (Nat.le_refl _) _).setCell (p := ⟨w.heap.size, 2, none⟩) (Nat.le_refl _) _
end Go.Proofs.YtcpplebgocbnhaaDoor
