/-
  samaritanref02.Or: the union of two ascending lists.
-/
import Derived.Test.YtalfjcamjdmdjaaDoorRefO
namespace Go.Proofs.YtalfjcamjdmdjaaDoor
open Go.RowKit

/-- what has been gathered from the first i of xs and the first k of ys. -/
structure OrS (xs ys L : List Int) (i k : Nat) : Prop where
  up : UpI L
  mem : ∀ m, m ∈ L ↔ m ∈ xs.take i ∨ m ∈ ys.take k
  a : ∀ m ∈ L, ∀ x ∈ xs.drop i, m < x
  b : ∀ m ∈ L, ∀ y ∈ ys.drop k, m < y
  len : L.length ≤ i + k
section
variable {xs ys L : List Int} {i k : Nat} {x y : Int}
theorem OrS.start : OrS xs ys [] 0 0 := ⟨List.Pairwise.nil, by simp, by simp, by simp, by simp⟩
theorem take_mem {l : List Int} {i : Nat} {x : Int} (h : l[i]? = some x) (m : Int) : m ∈ l.take (i + 1) ↔ m ∈ l.take i ∨ m = x := by
  obtain ⟨h1, h2⟩ := List.getElem?_eq_some_iff.1 h
  rw [List.take_succ_eq_append_getElem h1, h2]
  simp
theorem drop_at {l : List Int} {i : Nat} {x : Int} (h : l[i]? = some x) : l.drop i = x :: l.drop (i + 1) := by
  obtain ⟨h1, h2⟩ := List.getElem?_eq_some_iff.1 h
  rw [List.drop_eq_getElem_cons h1, h2]
theorem drop_gt {l : List Int} (hl : UpI l) {i : Nat} {x : Int} (h : l[i]? = some x) : ∀ z ∈ l.drop (i + 1), x < z := by
  have h1 : UpI (l.drop i) := hl.sublist (List.drop_sublist _ _)
  rw [drop_at h] at h1
  exact (List.pairwise_cons.1 h1).1
theorem up_snoc (hu : UpI L) (h : ∀ m ∈ L, m < x) : UpI (L ++ [x]) := List.pairwise_append.2 ⟨hu, List.pairwise_singleton _ _, fun a ha b hb => by
  rw [List.mem_singleton.1 hb]
  exact h a ha⟩
theorem OrS.left (h : OrS xs ys L i k) (hx : UpI xs) (hi : xs[i]? = some x) (hlt : ∀ y ∈ ys.drop k, x < y) : OrS xs ys (L ++ [x]) (i + 1) k := by
  refine ⟨up_snoc h.up (fun m hm => h.a m hm x (by rw [drop_at hi]; simp)), fun m => ?_, fun m hm z hz => ?_, fun m hm z hz => ?_, by rw [List.length_append]; have := h.len; simp; omega⟩
  · rw [List.mem_append, h.mem, take_mem hi, List.mem_singleton]
    constructor
    · rintro ((h | h) | h)
      · exact .inl (.inl h)
      · exact .inr h
      · exact .inl (.inr h)
    · rintro ((h | h) | h)
      · exact .inl (.inl h)
      · exact .inr h
      · exact .inl (.inr h)
  · rcases List.mem_append.1 hm with hm | hm
    · exact h.a m hm z (by rw [drop_at hi]; exact List.mem_cons_of_mem _ hz)
    · rw [List.mem_singleton.1 hm]
      exact drop_gt hx hi z hz
  · rcases List.mem_append.1 hm with hm | hm
    · exact h.b m hm z hz
    · rw [List.mem_singleton.1 hm]
      exact hlt z hz
theorem OrS.swap (h : OrS xs ys L i k) : OrS ys xs L k i := ⟨h.up, fun m => (h.mem m).trans or_comm, h.b, h.a, by have := h.len; omega⟩
theorem OrS.right (h : OrS xs ys L i k) (hy : UpI ys) (hk : ys[k]? = some y) (hlt : ∀ x ∈ xs.drop i, y < x) : OrS xs ys (L ++ [y]) i (k + 1) := (h.swap.left hy hk hlt).swap
theorem OrS.both (h : OrS xs ys L i k) (hx : UpI xs) (hy : UpI ys) (hi : xs[i]? = some x) (hk : ys[k]? = some x) : OrS xs ys (L ++ [x]) (i + 1) (k + 1) := by
  refine ⟨up_snoc h.up (fun m hm => h.a m hm x (by rw [drop_at hi]; simp)), fun m => ?_, fun m hm z hz => ?_, fun m hm z hz => ?_, by rw [List.length_append]; have := h.len; simp; omega⟩
  · rw [List.mem_append, h.mem, take_mem hi, take_mem hk, List.mem_singleton]
    constructor
    · rintro ((h | h) | h)
      · exact .inl (.inl h)
      · exact .inr (.inl h)
      · exact .inl (.inr h)
    · rintro ((h | h) | (h | h))
      · exact .inl (.inl h)
      · exact .inr h
      · exact .inl (.inr h)
      · exact .inr h
  · rcases List.mem_append.1 hm with hm | hm
    · exact h.a m hm z (by rw [drop_at hi]; exact List.mem_cons_of_mem _ hz)
    · rw [List.mem_singleton.1 hm]
      exact drop_gt hx hi z hz
  · rcases List.mem_append.1 hm with hm | hm
    · exact h.b m hm z (by rw [drop_at hk]; exact List.mem_cons_of_mem _ hz)
    · rw [List.mem_singleton.1 hm]
      exact drop_gt hy hk z hz
/-- elements from i on are at least the i-th. -/
theorem drop_ge {l : List Int} (hl : UpI l) {i : Nat} {x : Int} (h : l[i]? = some x) {c : Int} (hc : c < x) : ∀ z ∈ l.drop i, c < z := fun z hz => by
  rw [drop_at h] at hz
  rcases List.mem_cons.1 hz with rfl | hz
  · exact hc
  · have := drop_gt hl h z hz
    omega
end
/-- an answer that is an ascending list of the call's own, with the given elements. -/
def RetUp (w : World) (p : Int → Prop) (e : Ending) (w' : World) : Prop := ∃ L, RetI w L e w' ∧ UpI L ∧ ∀ m, m ∈ L ↔ p m

set_option maxRecDepth 100000 in
set_option maxHeartbeats 4000000 in
theorem refOr_any (A A' : Option Addr) (c c' : Nat) (xs ys : List Int) (hux : UpI xs) (huy : UpI ys) (w : World) (h : Sl w w.heap.size A (xs.map (Value.int .i64))) (h' : Sl w w.heap.size A' (ys.map (Value.int .i64))) (hl : xs.length ≤ 1099511627) (hl' : ys.length ≤ 1099511627) :
    Calls Tryd.prog 31 #[.slice A xs.length c, .slice A' ys.length c'] w (RetUp w (fun m => m ∈ xs ∨ m ∈ ys)) := by
  have HH := Lib.hid (And.intro (And.intro h h') (And.intro hux huy))
  obtain ⟨m, hm⟩ : ∃ m, m = xs.length := ⟨_, rfl⟩
  obtain ⟨n, hn⟩ : ∃ n, n = ys.length := ⟨_, rfl⟩
  have HM := Lib.hid (And.intro hm hn)
  rw [← hm] at hl ⊢
  rw [← hn] at hl' ⊢
  clear h h' hm hn hux huy
  go_enter Tryd.func31, Tryd.ntmps31
  go_wp2_with fail
  go_loopw [5, 6, 7] (fun v iv kv wr => ∃ (i k : Nat) (L : List Int), i ≤ m ∧ k ≤ n ∧ iv = .int .i64 i ∧ kv = .int .i64 k ∧ OrS xs ys L i k ∧ OwnI wr w.heap.size 3 v L ∧ Below w.heap.size w wr) (fun _ i k _ => m - (intOf i).toNat + (n - (intOf k).toNat))
  case atStart => exact ⟨0, 0, [], Nat.zero_le _, Nat.zero_le _, rfl, rfl, OrS.start, OwnV.nil _ _ _, Below.refl _ _⟩
  case round =>
    obtain ⟨i, k, L, hi, hk, rfl, rfl, hor, hown, hb⟩ := hrel
    have HOW := Lib.hid hown
    have HBR := Lib.hid hb
    have HOR := Lib.hid hor
    have hbz := hb.size
    have hlen : L.length ≤ 2199023255 := by have := hor.len; omega
    by_cases hlt : i < m
    · obtain ⟨x, hx⟩ : ∃ x, xs[i]? = some x := ⟨xs[i]'(by have := HM.out.1; omega), by simp⟩
      obtain ⟨b, o, rfl, _, q⟩ := (HH.out.1.1.below hb).int hx
      have hlt' : (i : Int) < (m : Int) := by omega
      have HX := Lib.hid hx
      by_cases hkt : k < n
      · obtain ⟨y, hy⟩ : ∃ y, ys[k]? = some y := ⟨ys[k]'(by have := HM.out.2; omega), by simp⟩
        obtain ⟨b', o', rfl, _, q'⟩ := (HH.out.1.2.below hb).int hy
        have hkt' : (k : Int) < (n : Int) := by omega
        have HY := Lib.hid hy
        have hkn : ((k : Int) == (n : Int)) = false := beq_eq_false_iff_ne.2 (by omega)
        have him : ((i : Int) == (m : Int)) = false := beq_eq_false_iff_ne.2 (by omega)
        clear hown hb hor hx hy
        by_cases hxy : x < y
        · go_wp2_with fail
          go_quiet (fail)
          go_wp2_with (at_builtin; refine wpList_append_int _ rfl _ _ 22 rfl w.heap.size 3 Tryd.underlying22 int_infoA _ L _ x rfl rfl (OwnV.drewN HOW.out _) rfl (by omega) hbz ?_; intro v' w' hown' hgrow')
          go_roundw
          case rel => exact ⟨i + 1, k, L ++ [x], by omega, by omega, by go_num, rfl, HOR.out.left HH.out.2.1 HX.out (drop_ge HH.out.2.2 HY.out hxy), hown', (below_drewN HBR.out _).grown hgrow' HBR.out.size (fun j e => HOW.out.ge_base j e)⟩
          case measure => simp [intOf]; omega
        · have hxyd : decide (x < y) = false := decide_eq_false hxy
          by_cases hyx : y < x
          · go_wp2_with fail
            go_quiet (fail)
            go_wp2_with fail
            go_quiet (fail)
            go_wp2_with (at_builtin; refine wpList_append_int _ rfl _ _ 22 rfl w.heap.size 3 Tryd.underlying22 int_infoA _ L _ y rfl rfl (OwnV.drewN HOW.out _) rfl (by omega) hbz ?_; intro v' w' hown' hgrow')
            go_roundw
            case rel => exact ⟨i, k + 1, L ++ [y], by omega, by omega, rfl, by go_num, HOR.out.right HH.out.2.2 HY.out (drop_ge HH.out.2.1 HX.out hyx), hown', (below_drewN HBR.out _).grown hgrow' HBR.out.size (fun j e => HOW.out.ge_base j e)⟩
            case measure => simp [intOf]; omega
          · obtain rfl : x = y := by omega
            have hxx : decide (x < x) = false := decide_eq_false hxy
            go_wp2_with fail
            go_quiet (fail)
            go_wp2_with fail
            go_quiet (fail)
            go_wp2_with (at_builtin; refine wpList_append_int _ rfl _ _ 22 rfl w.heap.size 3 Tryd.underlying22 int_infoA _ L _ x rfl rfl (OwnV.drewN HOW.out _) rfl (by omega) hbz ?_; intro v' w' hown' hgrow')
            go_roundw
            case rel => exact ⟨i + 1, k + 1, L ++ [x], by omega, by omega, by go_num, by go_num, HOR.out.both HH.out.2.1 HH.out.2.2 HX.out HY.out, hown', (below_drewN HBR.out _).grown hgrow' HBR.out.size (fun j e => HOW.out.ge_base j e)⟩
            case measure => simp [intOf]; omega
      · have hkk : k = n := by omega
        subst hkk
        clear hown hb hor hx
        go_wp2_with fail
        go_quiet (fail)
        go_wp2_with (at_builtin; refine wpList_append_int _ rfl _ _ 22 rfl w.heap.size 3 Tryd.underlying22 int_infoA _ L _ x rfl rfl (OwnV.drewN HOW.out _) rfl (by omega) hbz ?_; intro v' w' hown' hgrow')
        go_roundw
        case rel => exact ⟨i + 1, k, L ++ [x], by omega, by omega, by go_num, rfl, HOR.out.left HH.out.2.1 HX.out (by rw [List.drop_eq_nil_of_le (by have := HM.out.2; omega)]; simp), hown', (below_drewN HBR.out _).grown hgrow' HBR.out.size (fun j e => HOW.out.ge_base j e)⟩
        case measure => simp [intOf]; omega
    · have hii : i = m := by omega
      subst hii
      by_cases hkt : k < n
      · obtain ⟨y, hy⟩ : ∃ y, ys[k]? = some y := ⟨ys[k]'(by have := HM.out.2; omega), by simp⟩
        obtain ⟨b', o', rfl, _, q'⟩ := (HH.out.1.2.below hb).int hy
        have hkt' : (k : Int) < (n : Int) := by omega
        have HY := Lib.hid hy
        have hkn : ((k : Int) == (n : Int)) = false := beq_eq_false_iff_ne.2 (by omega)
        clear hown hb hor hy
        go_wp2_with fail
        go_quiet (fail)
        go_wp2_with fail
        go_quiet (fail)
        go_wp2_with (at_builtin; refine wpList_append_int _ rfl _ _ 22 rfl w.heap.size 3 Tryd.underlying22 int_infoA _ L _ y rfl rfl (OwnV.drewN HOW.out _) rfl (by omega) hbz ?_; intro v' w' hown' hgrow')
        go_roundw
        case rel => exact ⟨i, k + 1, L ++ [y], by omega, by omega, rfl, by go_num, HOR.out.right HH.out.2.2 HY.out (by rw [List.drop_eq_nil_of_le (by have := HM.out.1; omega)]; simp), hown', (below_drewN HBR.out _).grown hgrow' HBR.out.size (fun j e => HOW.out.ge_base j e)⟩
        case measure => simp [intOf]; omega
      · have hkk : k = n := by omega
        subst hkk
        clear hown hb hor
        go_wp2_with fail
        go_ret
        refine ⟨L, ⟨_, rfl, HOW.out, HBR.out⟩, HOR.out.up, fun z => (HOR.out.mem z).trans ?_⟩
        rw [List.take_of_length_le (by have := HM.out.1; omega), List.take_of_length_le (by have := HM.out.2; omega)]
end Go.Proofs.YtalfjcamjdmdjaaDoor
