/-
  cmp.Compare, cmp.Or and the comparison of two incidents (dispatchcost.openOnes$1); samaritanref35.ahead.
  Edges of a road graph as they lie in memory; slices.Clone at []api.Edge.
  Two arrays of rows of integers that a call makes itself (the edges that leave and enter each node), and one append to one row.
-/
import Derived.Test.YtimijjhdgihobaaDoorMqg
import Derived.Deep.RegionHeld3
import Derived.Test.YtimijjhdgihobaaDoorProg
import Derived.Test.YtimijjhdgihobaaDoorMqe
import Derived.WalkLawsBesides
import Derived.WalkSpells
import Derived.BigGuardPart
import Derived.Deep.Light
import Derived.Lib.SliceRun
import Derived.Deep.AppendLies
namespace Go.Proofs.YtimijjhdgihobaaDoor
section
open Go.RowKit Go.Maps

def cmpZ (a b : Int) : Int := if a < b then -1 else if b < a then 1 else 0
theorem isNaN_int (z : Int) (w : World) : Calls Tryd.prog 90 #[.int .i64 z] w fun e w' => e = .returned (.bool false) ∧ w = w' := by
  have d : (z != z) = false := by simp
  go_enter Tryd.func90, Tryd.ntmps90
  go_wp2_with fail
  go_ret
  exact ⟨rfl, rfl⟩
theorem isNaN_int64 (z : Int) (w : World) : Calls Tryd.prog 91 #[.int .i64 z] w fun e w' => e = .returned (.bool false) ∧ w = w' := by
  have d : (z != z) = false := by simp
  go_enter Tryd.func91, Tryd.ntmps91
  go_wp2_with fail
  go_ret
  exact ⟨rfl, rfl⟩
theorem compare_int (a b : Int) (w : World) : Calls Tryd.prog 76 #[.int .i64 a, .int .i64 b] w fun e w' => e = .returned (.int .i64 (cmpZ a b)) ∧ w = w' := by
  by_cases h1 : a < b
  · have d1 : decide (a < b) = true := decide_eq_true h1
    go_enter Tryd.func76, Tryd.ntmps76
    go_wp2_with (go_at_call 90; refine (isNaN_int _ _).mono ?_; rintro e w' ⟨rfl, rfl⟩)
    go_ret
    exact ⟨ret_int (by rw [cmpZ, if_pos h1]), rfl⟩
  · have d1 : decide (a < b) = false := decide_eq_false h1
    by_cases h2 : b < a
    · have d2 : decide (b < a) = true := decide_eq_true h2
      go_enter Tryd.func76, Tryd.ntmps76
      go_wp2_with (go_at_call 90; refine (isNaN_int _ _).mono ?_; rintro e w' ⟨rfl, rfl⟩)
      go_ret
      exact ⟨ret_int (by rw [cmpZ, if_neg (by omega), if_pos h2]), rfl⟩
    · have d2 : decide (b < a) = false := decide_eq_false h2
      go_enter Tryd.func76, Tryd.ntmps76
      go_wp2_with (go_at_call 90; refine (isNaN_int _ _).mono ?_; rintro e w' ⟨rfl, rfl⟩)
      go_ret
      exact ⟨ret_int (by rw [cmpZ, if_neg (by omega), if_neg (by omega)]), rfl⟩
theorem compare_int64 (a b : Int) (w : World) : Calls Tryd.prog 77 #[.int .i64 a, .int .i64 b] w fun e w' => e = .returned (.int .i64 (cmpZ a b)) ∧ w = w' := by
  by_cases h1 : a < b
  · have d1 : decide (a < b) = true := decide_eq_true h1
    go_enter Tryd.func77, Tryd.ntmps77
    go_wp2_with (go_at_call 91; refine (isNaN_int64 _ _).mono ?_; rintro e w' ⟨rfl, rfl⟩)
    go_ret
    exact ⟨ret_int (by rw [cmpZ, if_pos h1]), rfl⟩
  · have d1 : decide (a < b) = false := decide_eq_false h1
    by_cases h2 : b < a
    · have d2 : decide (b < a) = true := decide_eq_true h2
      go_enter Tryd.func77, Tryd.ntmps77
      go_wp2_with (go_at_call 91; refine (isNaN_int64 _ _).mono ?_; rintro e w' ⟨rfl, rfl⟩)
      go_ret
      exact ⟨ret_int (by rw [cmpZ, if_neg (by omega), if_pos h2]), rfl⟩
    · have d2 : decide (b < a) = false := decide_eq_false h2
      go_enter Tryd.func77, Tryd.ntmps77
      go_wp2_with (go_at_call 91; refine (isNaN_int64 _ _).mono ?_; rintro e w' ⟨rfl, rfl⟩)
      go_ret
      exact ⟨ret_int (by rw [cmpZ, if_neg (by omega), if_neg (by omega)]), rfl⟩

def orZ : List Int → Int
  | [] => 0
  | z :: zs => if z = 0 then orZ zs else z
theorem orZ_at {zs : List Int} {k : Nat} {z : Int} (h : ∀ y ∈ zs.take k, y = 0) (hz : zs[k]? = some z) (hne : z ≠ 0) : orZ zs = z := by
  induction zs generalizing k with
  | nil => simp at hz
  | cons a zs ih =>
    cases k with
    | zero =>
      simp at hz
      subst hz
      simp [orZ, hne]
    | succ k =>
      have ha : a = 0 := h a (by simp)
      subst ha
      simp only [orZ, if_true]
      exact ih (k := k) (fun y hy => h y (by simp [hy])) (by simpa using hz)
theorem orZ_zero {zs : List Int} (h : ∀ y ∈ zs, y = 0) : orZ zs = 0 := by
  induction zs with
  | nil => rfl
  | cons a zs ih =>
    have ha : a = 0 := h a (by simp)
    subst ha
    simp only [orZ, if_true]
    exact ih (fun y hy => h y (by simp [hy]))
set_option maxRecDepth 100000 in
theorem or_any (A : Option Addr) (c : Nat) (zs : List Int) (w : World) (B : Nat) (hs : Sl w B A (zs.map (Value.int .i64))) (hl : zs.length ≤ 65536) :
    Calls Tryd.prog 75 #[.slice A zs.length c] w fun e w' => e = .returned (.int .i64 (orZ zs)) ∧ w = w' := by
  have HS := Lib.hid hs
  clear hs
  go_enter Tryd.func75, Tryd.ntmps75
  go_wp2_with fail
  go_loop [8] (fun i => ∃ k : Nat, k ≤ zs.length ∧ i = .int .i64 k ∧ ∀ y ∈ zs.take k, y = 0) (fun i => zs.length - (intOf i).toNat)
  case atStart => exact ⟨0, Nat.zero_le _, rfl, by simp⟩
  case round =>
    obtain ⟨k, hk, rfl, hall⟩ := hrel
    have HA := Lib.hid hall
    clear hall
    by_cases hlt : k < zs.length
    · obtain ⟨z, hz⟩ : ∃ z, zs[k]? = some z := ⟨zs[k], by simp⟩
      obtain ⟨b, o, rfl, hb, hc⟩ := HS.out.int hz
      have HZ := Lib.hid hz
      clear hz
      by_cases h0 : z = 0
      · have d0 : (z != 0) = false := by simp [h0]
        have HT : Hid (∀ y ∈ zs.take (k + 1), y = 0) := Lib.hid (by
          intro y hy
          rw [take_snoc' HZ.out, List.mem_append, List.mem_singleton] at hy
          rcases hy with hy | rfl
          · exact HA.out y hy
          · exact h0)
        clear h0
        go_wp2_with fail
        go_round
        case rel => exact ⟨k + 1, by omega, by go_num, HT.out⟩
        case measure => simp [intOf]; omega
      · have d0 : (z != 0) = true := by simp [h0]
        have d0' : (z == 0) = false := by simp [h0]
        have HV := Lib.hid (orZ_at HA.out HZ.out h0)
        clear h0
        go_wp2_with fail
        go_ret
        exact ⟨ret_int HV.out.symm, rfl⟩
    · have hkk : k = zs.length := by omega
      subst hkk
      go_wp2_with fail
      go_ret
      refine ⟨ret_int (orZ_zero ?_).symm, rfl⟩
      have := HA.out
      rw [List.take_length] at this
      exact this

def cmpI (a b : IncT) : Int := orZ [cmpZ a.urg b.urg, cmpZ a.since b.since, cmpZ a.id b.id]
theorem cmpI_neg (a b : IncT) : cmpI a b < 0 ↔ ltI a b := by
  unfold cmpI ltI
  simp only [orZ, cmpZ]
  repeat' split
  all_goals omega
def aggI (x : IncT) : Value := .agg #[.int .i64 x.id, .int .i64 x.urg, .string x.code, .slice x.nA x.nodes.length x.nc, .int .i64 x.dist, .int .i64 x.since, .slice x.cA x.cl x.cc, .slice x.uA x.ul x.uc, .int .i64 x.merged, .bool x.closed]
def objI (x : IncT) : Obj := .cells #[.int .i64 x.id, .int .i64 x.urg, .string x.code, .slice x.nA x.nodes.length x.nc, .int .i64 x.dist, .int .i64 x.since, .slice x.cA x.cl x.cc, .slice x.uA x.ul x.uc, .int .i64 x.merged, .bool x.closed] 38

set_option maxRecDepth 100000 in
set_option maxHeartbeats 1000000 in
theorem cmpI_any (a b : IncT) (w : World) : Calls Tryd.prog 74 #[aggI a, aggI b] w fun e w' => e = .returned (.int .i64 (cmpI a b)) ∧ Below w.heap.size w w' := by
  unfold aggI
  have HB : Hid (Below w.heap.size w ((w.alloc (objI a)).alloc (objI b))) := Lib.hid (((Below.refl w.heap.size w).alloc (Nat.le_refl _) _).alloc (by simp) _)
  obtain ⟨W, hW⟩ : ∃ W, W = (w.alloc (objI a)).alloc (objI b) := ⟨_, rfl⟩
  have HC : Hid (∀ W', Below W.heap.size W W' → W'.cell? ⟨w.heap.size, 0, none⟩ = some (.int .i64 a.id) ∧ W'.cell? ⟨w.heap.size, 1, none⟩ = some (.int .i64 a.urg) ∧ W'.cell? ⟨w.heap.size, 5, none⟩ = some (.int .i64 a.since) ∧ W'.cell? ⟨w.heap.size + 1, 0, none⟩ = some (.int .i64 b.id) ∧ W'.cell? ⟨w.heap.size + 1, 1, none⟩ = some (.int .i64 b.urg) ∧ W'.cell? ⟨w.heap.size + 1, 5, none⟩ = some (.int .i64 b.since)) := Lib.hid (by
    intro W' hb
    have ka : ∀ j, W'.cell? ⟨w.heap.size, j, none⟩ = (w.alloc (objI a)).cell? ⟨w.heap.size, j, none⟩ := fun j => by
      rw [hb.cell (p := ⟨w.heap.size, j, none⟩) (by rw [hW]; simp; omega), hW, World.cell?_alloc_lt _ _ _ (by simp)]
    have kb : ∀ j, W'.cell? ⟨w.heap.size + 1, j, none⟩ = ((w.alloc (objI a)).alloc (objI b)).cell? ⟨w.heap.size + 1, j, none⟩ := fun j => by
      rw [hb.cell (p := ⟨w.heap.size + 1, j, none⟩) (by rw [hW]; simp), hW]
    refine ⟨?_, ?_, ?_, ?_, ?_, ?_⟩
    · rw [ka, objI, World.cell?_alloc_at (hn := rfl)]; rfl
    · rw [ka, objI, World.cell?_alloc_at (hn := rfl)]; rfl
    · rw [ka, objI, World.cell?_alloc_at (hn := rfl)]; rfl
    · rw [kb, objI, objI, World.cell?_alloc_at (hn := by simp)]; rfl
    · rw [kb, objI, objI, World.cell?_alloc_at (hn := by simp)]; rfl
    · rw [kb, objI, objI, World.cell?_alloc_at (hn := by simp)]; rfl)
  rw [← hW] at HB
  unfold objI at hW
  go_enter Tryd.func74, Tryd.ntmps74
  go_wp2_with fail
  rw [← hW]
  obtain ⟨k0, k1, k2, k3, k4, k5⟩ := HC.out W (Below.refl _ _)
  clear hW
  go_region_held3 (fun W' => Below W.heap.size W W' ∧ W'.cell? ⟨w.heap.size, 0, none⟩ = some (.int .i64 a.id) ∧ W'.cell? ⟨w.heap.size, 1, none⟩ = some (.int .i64 a.urg) ∧ W'.cell? ⟨w.heap.size, 5, none⟩ = some (.int .i64 a.since) ∧ W'.cell? ⟨w.heap.size + 1, 0, none⟩ = some (.int .i64 b.id) ∧ W'.cell? ⟨w.heap.size + 1, 1, none⟩ = some (.int .i64 b.urg) ∧ W'.cell? ⟨w.heap.size + 1, 5, none⟩ = some (.int .i64 b.since))
    (first | exact ⟨(Below.refl _ _).drew, HC.out _ (Below.refl _ _).drew⟩ | assumption | exact ⟨((Below.refl _ _).drew.alloc (Nat.le_refl _) _), HC.out _ ((Below.refl _ _).drew.alloc (Nat.le_refl _) _)⟩)
    (first
      | (go_at_call 76; refine (compare_int _ _ _).mono ?_; rintro e w' ⟨rfl, rfl⟩)
      | (go_at_call 77; refine (compare_int64 _ _ _).mono ?_; rintro e w' ⟨rfl, rfl⟩)
      | (go_at_call 75; refine (or_any (some ⟨W.heap.size, 0, none⟩) 3 [cmpZ a.urg b.urg, cmpZ a.since b.since, cmpZ a.id b.id] _ _ (Sl.lit W.drew [.int .i64 (cmpZ a.urg b.urg), .int .i64 (cmpZ a.since b.since), .int .i64 (cmpZ a.id b.id)] 3 rfl) (by simp)).mono ?_; rintro e w' ⟨rfl, rfl⟩))
  go_wp2_with fail
  go_ret
  exact ⟨rfl, HB.out.trans (((Below.refl _ _).drew.alloc (Nat.le_refl _) _).mono HB.out.size)⟩
end
section
open Go.RowKit Go.Maps

structure EdgeT where
  frm : Int
  dst : Int
  tm : Int
def cellsE (E : List EdgeT) : List Value := E.flatMap (fun e => [.int .i64 e.frm, .int .i64 e.dst, .int .i64 e.tm])
def EdgesAt (w : World) (B : Nat) (A : Option Addr) (E : List EdgeT) : Prop := Sl w B A (cellsE E)
theorem cellsE_len (E : List EdgeT) : (cellsE E).length = E.length * 3 := by
  induction E with
  | nil => rfl
  | cons e E ih =>
    have : cellsE (e :: E) = [.int .i64 e.frm, .int .i64 e.dst, .int .i64 e.tm] ++ cellsE E := rfl
    rw [this, List.length_append, ih, List.length_cons]
    simp
    omega
theorem cellsE_at : ∀ {E : List EdgeT} {i : Nat} {e : EdgeT}, E[i]? = some e → (cellsE E)[i * 3]? = some (.int .i64 e.frm) ∧ (cellsE E)[i * 3 + 1]? = some (.int .i64 e.dst) ∧ (cellsE E)[i * 3 + 2]? = some (.int .i64 e.tm)
  | [], i, e, h => by simp at h
  | x :: E, 0, e, h => by
    simp only [List.getElem?_cons_zero, Option.some.injEq] at h
    subst h
    exact ⟨rfl, rfl, rfl⟩
  | x :: E, i + 1, e, h => by
    have ih := cellsE_at (E := E) (i := i) (e := e) (by simpa using h)
    have hx : cellsE (x :: E) = [.int .i64 x.frm, .int .i64 x.dst, .int .i64 x.tm] ++ cellsE E := rfl
    have key : ∀ j, (cellsE (x :: E))[(i + 1) * 3 + j]? = (cellsE E)[i * 3 + j]? := by
      intro j
      rw [hx, List.getElem?_append_right (by simp; omega)]
      congr 1
      simp
      omega
    exact ⟨(key 0).trans ih.1, (key 1).trans ih.2.1, (key 2).trans ih.2.2⟩
section
variable {w w' : World} {B B' : Nat} {A : Option Addr} {E : List EdgeT}
theorem EdgesAt.at (h : EdgesAt w B A E) {i : Nat} {e : EdgeT} (hi : E[i]? = some e) : ∃ b o, A = some ⟨b, o, none⟩ ∧ b < B ∧ w.cell? ⟨b, o + i * 3, none⟩ = some (.int .i64 e.frm) ∧ w.cell? ⟨b, o + i * 3 + 1, none⟩ = some (.int .i64 e.dst) ∧ w.cell? ⟨b, o + i * 3 + 2, none⟩ = some (.int .i64 e.tm) := by
  obtain ⟨h0, h1, h2⟩ := cellsE_at hi
  obtain ⟨b, o, e0, hb, c0⟩ := h _ _ h0
  obtain ⟨b1, o1, e1, _, c1⟩ := h _ _ h1
  obtain ⟨b2, o2, e2, _, c2⟩ := h _ _ h2
  rw [e0] at e1 e2
  injection e1 with e1
  injection e1 with e3 e4
  injection e2 with e2
  injection e2 with e5 e6
  subst e3 e4 e5 e6
  exact ⟨b, o, e0, hb, c0, by rw [Nat.add_assoc]; exact c1, by rw [Nat.add_assoc]; exact c2⟩
theorem EdgesAt.below (h : EdgesAt w B A E) (hb : Below B w w') : EdgesAt w' B A E := Sl.below h hb
theorem EdgesAt.more (h : EdgesAt w B A E) (hB : B ≤ B') : EdgesAt w B' A E := Sl.more h hB
theorem EdgesAt.alloc (h : EdgesAt w B A E) (hB : B ≤ w.heap.size) (o : Obj) : EdgesAt (w.alloc o) B A E := Sl.alloc h hB o
end

theorem edge_info : (Tryd.prog.info? 55).map (fun i => (i.zero, i.size, i.bytes)) = some (some (.agg #[.int .i64 0, .int .i64 0, .int .i64 0]), 3, 24) := by kernel_rfl

/-- what slices.Clone of edges returns. -/
def RetEdges (w : World) (E : List EdgeT) (e : Ending) (w' : World) : Prop := ∃ A c, e = .returned (.slice A E.length c) ∧ EdgesAt w' w'.heap.size A E ∧ E.length ≤ c ∧ c ≤ 9223372036854775807 ∧ Below w.heap.size w w'

theorem caps_row {w : World} {base : Nat} {e : TypeId} {size n c : Nat} {A : Option Addr} {m : Nat} {xs : List Value} (h : w.ownsRow base e size (.slice A m c) n xs) : m = n ∧ n ≤ c ∧ c ≤ 9223372036854775807 := by
  rcases h.2 with ⟨e1, e2⟩ | ⟨g4, c4, cur4, e1, _, _, e2, e3, _⟩
  · injection e1 with e3 e4 e5
    subst e3 e4 e5
    exact ⟨by omega, by omega, by omega⟩
  · injection e1 with e5 e6 e7
    subst e6 e7
    exact ⟨rfl, e2, by unfold maxLen at e3; omega⟩

set_option maxRecDepth 100000 in
theorem cloneE_any (A : Option Addr) (c : Nat) (E : List EdgeT) (w : World) (ha : EdgesAt w w.heap.size A E) (hl : E.length ≤ 65536) (hn : A = none → c = 0) :
    Calls Tryd.prog 25 #[.slice A E.length c] w (RetEdges w E) := by
  have HN := Lib.hid hn
  clear hn
  have hnil := fun (W : World) (a : Option Addr) (n c : Nat) => Lib.run_eql_slice_nil (P := Tryd.prog) W 22 55 a n c 0 0 Tryd.underlying22
  cases A with
  | none =>
    obtain rfl : E = [] := by
      have := Sl.nil_of_none ha
      have h2 := congrArg List.length this
      rw [cellsE_len] at h2
      exact List.eq_nil_of_length_eq_zero (by simp at h2; omega)
    obtain rfl := HN.out rfl
    go_enter Tryd.func25, Tryd.ntmps25
    go_wp2_with fail
    go_ret
    exact ⟨none, 0, rfl, Sl.empty, by simp, by omega, Below.refl _ _⟩
  | some a =>
    obtain ⟨i0, hi, hz1, hz2, hz3⟩ := info_parts edge_info
    have hE0 : (w.alloc (.cells #[] 55)).ownsRow w.heap.size 55 3 (.slice (some ⟨w.heap.size, 0, none⟩) 0 0) 0 [] := by
      have := World.ownsRow_lit (base := w.heap.size) (e := 55) (size := 3) w #[] 0 (Nat.le_refl _) (by unfold maxLen; omega) (by simp)
      simpa using this
    have hb1 : Below w.heap.size w (w.alloc (.cells #[] 55)) := (Below.refl _ _).alloc (Nat.le_refl _) _
    have hs1 := Sl.alloc ha (Nat.le_refl _) (.cells #[] 55)
    have hcells : ∀ j u, (cellsE E)[j]? = some u → (w.alloc (.cells #[] 55)).cell? (a.add j) = some u := by
      intro j u hj
      obtain ⟨b, o, e, _, hc⟩ := hs1 j u hj
      injection e with e
      subst e
      rw [add_none]
      exact hc
    have hone : ∀ u ∈ cellsE E, u.oneCell' = true := by
      intro u hu
      unfold cellsE at hu
      obtain ⟨e, _, he⟩ := List.mem_flatMap.1 hu
      simp at he
      rcases he with rfl | rfl | rfl <;> rfl
    have HRES : Hid (∀ v' w', w'.ownsRow w.heap.size 55 3 v' (0 + E.length) ([] ++ cellsE E) → (w.alloc (.cells #[] 55)).grownBy w' (some w.heap.size) → RetEdges w E (.returned v') w') := by
      show ∀ v' w', _ → _ → _
      intro v' w' hown hg
      obtain ⟨A', c', rfl, hsl⟩ := Sl.own hown
      have := caps_row hown
      refine ⟨A', c', by rw [Nat.zero_add], ?_, by omega, by omega, hb1.grown hg hb1.size (fun k e => by cases e; exact Nat.le_refl _)⟩
      rw [List.nil_append] at hsl
      exact hsl
    have HC := Lib.hid hcells
    have HO := Lib.hid hone
    have HE0 := Lib.hid hE0
    clear hb1 hs1 hcells hone hE0
    go_enter Tryd.func25, Tryd.ntmps25
    go_wp2_with (at_builtin; refine wpList_append_own _ rfl (.tmp 5) (.tmp 6) 22 rfl w.heap.size 55 i0 (.agg #[.int .i64 0, .int .i64 0, .int .i64 0]) 3 24 Tryd.underlying22 hi hz1 hz2 hz3 rfl (by decide) _ 0 [] rfl HE0.out a E.length c (cellsE E) rfl (cellsE_len E) HC.out HO.out (by unfold maxLen; omega) (by omega) (by simp) ?_; intro v' w' hown hg _)
    go_ret
    exact HRES.out _ _ hown hg
end
section
open Go.RowKit Go.Maps

theorem int_info35 : (Tryd.prog.info? 3).map (fun i => (i.zero, i.size, i.bytes)) = some (some (.int .i64 0), 1, 8) := by kernel_rfl

/-- the numbers of the edges among the first k whose end f is j. -/
def idx (f : EdgeT → Int) (E : List EdgeT) (k : Nat) (j : Nat) : List Int := ((E.take k).zipIdx.filter (fun p => f p.1 == (j : Int))).map (fun p => (p.2 : Int))
theorem idx_zero (f : EdgeT → Int) (E : List EdgeT) (j : Nat) : idx f E 0 j = [] := rfl
theorem idx_succ {f : EdgeT → Int} {E : List EdgeT} {k : Nat} {e : EdgeT} (h : E[k]? = some e) (j : Nat) : idx f E (k + 1) j = idx f E k j ++ (if f e = (j : Int) then [(k : Int)] else []) := by
  have hk := (List.getElem?_eq_some_iff.1 h).1
  unfold idx
  have e1 : E.take (k + 1) = E.take k ++ [e] := by
    rw [List.take_succ_eq_append_getElem hk, (List.getElem?_eq_some_iff.1 h).2]
  rw [e1, List.zipIdx_append, List.filter_append, List.map_append]
  congr 1
  have hl : (E.take k).length = k := by rw [List.length_take]; omega
  rw [hl]
  by_cases q : f e = (j : Int)
  · rw [if_pos q]
    simp [q]
  · rw [if_neg q]
    simp [q]
theorem idx_len (f : EdgeT → Int) (E : List EdgeT) (k j : Nat) : (idx f E k j).length ≤ k := by
  unfold idx
  rw [List.length_map]
  refine Nat.le_trans (List.length_filter_le _ _) ?_
  simp
  omega

def updF {α : Type} (F : Bool → Nat → α) (s : Bool) (j : Nat) (v : α) : Bool → Nat → α := fun s' j' => if s' = s ∧ j' = j then v else F s' j'
theorem updF_same {α : Type} (F : Bool → Nat → α) (s : Bool) (j : Nat) (v : α) : updF F s j v s j = v := by simp [updF]
theorem updF_other {α : Type} {F : Bool → Nat → α} {s s' : Bool} {j j' : Nat} {v : α} (h : ¬ (s' = s ∧ j' = j)) : updF F s j v s' j' = F s' j' := by simp only [updF, if_neg h]

structure RowsAt (w : World) (base : Nat) (bl : Bool → Nat) (n : Nat) (F : Bool → Nat → Value) (P : Bool → Nat → List Int) : Prop where
  cell : ∀ s j, j < n → w.cell? ⟨bl s, j, none⟩ = some (F s j)
  froz : ∀ s j, j < n → w.frozen? ⟨bl s, j, none⟩ = false
  own : ∀ s j, j < n → OwnI w base 3 (F s j) (P s j)
  dist : ∀ s j s' j', j < n → j' < n → ¬ (s' = s ∧ j' = j) → ∀ g, (F s j).ownBlock = some g → (F s' j').ownBlock ≠ some g
  low : ∀ s, bl s < base
  two : bl false ≠ bl true
  room : base ≤ w.heap.size
section
variable {w w' : World} {base : Nat} {bl : Bool → Nat} {n : Nat} {F : Bool → Nat → Value} {P : Bool → Nat → List Int}
theorem RowsAt.kept (h : RowsAt w base bl n F P) {row : Option Nat} (hg : w.grownBy w' row) (hr : ∀ k, row = some k → base ≤ k) (hn : ∀ s j k, j < n → row = some k → (F s j).ownBlock ≠ some k) : RowsAt w' base bl n F P := by
  have hb : Below base w w' := (Below.refl _ _).grown hg h.room hr
  refine ⟨fun s j hj => (hb.cell (p := ⟨bl s, j, none⟩) (h.low s)).trans (h.cell s j hj), fun s j hj => (hb.frozen (p := ⟨bl s, j, none⟩) (h.low s)).trans (h.froz s j hj), fun s j hj => ?_, h.dist, h.low, h.two, Nat.le_trans h.room hb.size⟩
  refine World.ownsRow.kept (h.own s j hj) hg ?_
  cases hk : (F s j).ownBlock with
  | none => exact .inl rfl
  | some k =>
    refine .inr fun e => ?_
    exact hn s j k hj e.symm hk
theorem RowsAt.alloc (h : RowsAt w base bl n F P) (o : Obj) : RowsAt (w.alloc o) base bl n F P := h.kept (World.grownBy_alloc w o none) (fun _ e => by cases e) (fun _ _ _ _ e => by cases e)
theorem RowsAt.drew (h : RowsAt w base bl n F P) : RowsAt w.drew base bl n F P := ⟨h.cell, h.froz, h.own, h.dist, h.low, h.two, h.room⟩
theorem RowsAt.setFresh (h : RowsAt w base bl n F P) {a : Addr} (ha : ∀ s, bl s ≠ a.block) (hF : ∀ s j, j < n → (F s j).ownBlock ≠ some a.block) (u : Value) : RowsAt (w.setCell a u) base bl n F P := by
  refine ⟨fun s j hj => ?_, fun s j hj => ?_, fun s j hj => (h.own s j hj).setCell_other (hF s j hj) u, h.dist, h.low, h.two, by simpa using h.room⟩
  · exact (World.cell?_setCell_other w a ⟨bl s, j, none⟩ u (fun q => ha s (by rw [q]))).trans (h.cell s j hj)
  · rw [World.frozen?_setCell]
    exact h.froz s j hj

/-- one append to one row, and the store of the new slice. -/
theorem RowsAt.append (h : RowsAt w base bl n F P) {s : Bool} {j : Nat} (hj : j < n) {z : Int} {g cap m : Nat} (hown : OwnI w' base 3 (.slice (some ⟨g, 0, none⟩) m cap) (P s j ++ [z])) (hg : w.grownBy w' (F s j).ownBlock) (hat : (F s j).ownBlock = some g ∨ w.heap.size ≤ g) :
    w'.cell? ⟨bl s, j, none⟩ = some (F s j) ∧ w'.frozen? ⟨bl s, j, none⟩ = false ∧ Below base w w' ∧
      RowsAt (w'.setCell ⟨bl s, j, none⟩ (.slice (some ⟨g, 0, none⟩) m cap)) base bl n (updF F s j (.slice (some ⟨g, 0, none⟩) m cap)) (updF P s j (P s j ++ [z])) := by
  have hb : Below base w w' := (Below.refl _ _).grown hg h.room (fun k e => (h.own s j hj).ge_base k e)
  have c1 : ∀ s j, j < n → w'.cell? ⟨bl s, j, none⟩ = some (F s j) := fun s j hj => (hb.cell (p := ⟨bl s, j, none⟩) (h.low s)).trans (h.cell s j hj)
  have f1 : ∀ s j, j < n → w'.frozen? ⟨bl s, j, none⟩ = false := fun s j hj => (hb.frozen (p := ⟨bl s, j, none⟩) (h.low s)).trans (h.froz s j hj)
  have hnew : ∀ s' j', j' < n → ¬ (s' = s ∧ j' = j) → (F s' j').ownBlock ≠ some g := by
    intro s' j' hj' hne q
    rcases hat with hat | hat
    · exact h.dist s j s' j' hj hj' hne g hat q
    · have := (h.own s' j' hj').lt_size g q
      omega
  refine ⟨c1 s j hj, f1 s j hj, hb, ⟨fun s' j' hj' => ?_, fun s' j' hj' => ?_, fun s' j' hj' => ?_, fun a i a' i' hi hi' hne g' hg' => ?_, h.low, h.two, by have := hb.size; have := h.room; simp; omega⟩⟩
  · by_cases q : s' = s ∧ j' = j
    · obtain ⟨rfl, rfl⟩ := q
      rw [updF_same]
      exact World.cell?_setCell_same' _ _ _ (by rw [c1 _ _ hj]; rfl)
    · rw [updF_other q]
      refine (World.cell?_setCell_other w' _ ⟨bl s', j', none⟩ _ ?_).trans (c1 s' j' hj')
      intro e
      injection e with e1 e2
      apply q
      refine ⟨?_, e2.symm⟩
      cases s <;> cases s' <;> first | rfl | exact absurd e1 h.two | exact absurd e1.symm h.two
  · rw [World.frozen?_setCell]
    exact f1 s' j' hj'
  · by_cases q : s' = s ∧ j' = j
    · obtain ⟨rfl, rfl⟩ := q
      rw [updF_same, updF_same]
      exact hown.setCell_below (h.low _) _
    · rw [updF_other q, updF_other q]
      refine OwnV.setCell_below ?_ (h.low _) _
      refine World.ownsRow.kept (h.own s' j' hj') hg ?_
      cases hk : (F s' j').ownBlock with
      | none => exact .inl rfl
      | some k =>
        refine .inr fun e => ?_
        exact h.dist s j s' j' hj hj' q k e.symm hk
  · by_cases q : a = s ∧ i = j
    · obtain ⟨rfl, rfl⟩ := q
      rw [updF_same] at hg'
      have e : g = g' := by simpa [Value.ownBlock] using hg'
      subst e
      rw [updF_other hne]
      exact hnew a' i' hi' hne
    · rw [updF_other q] at hg'
      by_cases q' : a' = s ∧ i' = j
      · obtain ⟨rfl, rfl⟩ := q'
        rw [updF_same]
        intro e
        have e : g = g' := by simpa [Value.ownBlock] using e
        subst e
        exact hnew a i hi q hg'
      · rw [updF_other q']
        exact h.dist a i a' i' hi hi' hne g' hg'
end

/-- at a step of a drawn region: 'append(row, z)', the new slice written out. -/
theorem step_append_int {P : Program} {ops : Array Oper} {o : Oper} {a : Act} {K : Act → World → Prop} {Q : Exit → Act → World → Prop} {X : Prop} (w : World) (hgd : o.guard = none) (s x : Operand) (t : TypeId)
    (ho : o.op = .call { callee := .builtin .append, args := #[s, x], argTypes := #[t, t] })
    (base : Nat) (e : TypeId) (ht : P.underlying t = some (.slice e)) (hinfo : (P.info? e).map (fun i => (i.zero, i.size, i.bytes)) = some (some (.int .i64 0), 1, 8))
    (v : Value) (zs : List Int) (w0 : World) (z : Int) (hw : w = w0.alloc (.cells #[.int .i64 z] e)) (hs : a.eval s = v) (hown : OwnI w0 base e v zs) (N : Nat) (hx : a.eval x = .slice (some ⟨N, 0, none⟩) 1 1) (hN : N = w0.heap.size) (hlen : zs.length + 1 ≤ 4398046511104) (hbase : base ≤ w0.heap.size)
    (h : ∀ g cap w', OwnI w' base e (.slice (some ⟨g, 0, none⟩) (zs.length + 1) cap) (zs ++ [z]) → w0.grownBy w' v.ownBlock → (v.ownBlock = some g ∨ w0.heap.size ≤ g) → K (a.put o.dst (.slice (some ⟨g, 0, none⟩) (zs.length + 1) cap)) w') :
    if Region.wanted o (yielded ops a.tmps) = true then Oper.wp P o a w K Q else X := by
  obtain ⟨i0, hi, hz1, hz2, hz3⟩ := info_parts hinfo
  subst hw hN
  refine step_append_lies _ hgd s x t ho base e i0 (.int .i64 0) 1 8 ht hi hz1 hz2 hz3 rfl (by decide) v zs.length (zs.map (Value.int .i64)) hs (World.ownsRow.alloc hown _) ⟨w0.heap.size, 0, none⟩ 1 1 [.int .i64 z] hx rfl (cell_one_new _ _ _) (by intro u hu; simp at hu; subst hu; rfl) (by decide) (by unfold maxLen; omega) (by omega) (by simp; omega) _ rfl ?_
  intro g cap w' h1 h2 h3 _
  refine h g cap w' ?_ ((World.grownBy_alloc w0 _ _).trans h2) ?_
  · unfold OwnI OwnV
    simpa using h1
  · rcases h3 with h3 | h3
    · exact .inl h3
    · right
      rw [h3]
      simp
end
end Go.Proofs.YtimijjhdgihobaaDoor
