/-
  cmp.Compare, cmp.Or and the comparison of two incidents (dispatchcost.openOnes$1); samaritanref35.ahead.
-/
import Derived.Test.YtpomakmmjbimfaaIncs
import Derived.Deep.RegionHeld3
namespace Go.Proofs.Ytpomakmmjbimfaa
open Go.RowKit Go.Maps

def cmpZ (a b : Int) : Int := if a < b then -1 else if b < a then 1 else 0
theorem isNaN_int (z : Int) (w : World) : Calls Try.prog 64 #[.int .i64 z] w fun e w' => e = .returned (.bool false) ∧ w = w' := by
  have d : (z != z) = false := by simp
  go_enter Try.func64, Try.ntmps64
  go_wp2_with fail
  go_ret
  exact ⟨rfl, rfl⟩
theorem isNaN_int64 (z : Int) (w : World) : Calls Try.prog 65 #[.int .i64 z] w fun e w' => e = .returned (.bool false) ∧ w = w' := by
  have d : (z != z) = false := by simp
  go_enter Try.func65, Try.ntmps65
  go_wp2_with fail
  go_ret
  exact ⟨rfl, rfl⟩
theorem compare_int (a b : Int) (w : World) : Calls Try.prog 51 #[.int .i64 a, .int .i64 b] w fun e w' => e = .returned (.int .i64 (cmpZ a b)) ∧ w = w' := by
  by_cases h1 : a < b
  · have d1 : decide (a < b) = true := decide_eq_true h1
    go_enter Try.func51, Try.ntmps51
    go_wp2_with (go_at_call 64; refine (isNaN_int _ _).mono ?_; rintro e w' ⟨rfl, rfl⟩)
    go_ret
    exact ⟨ret_int (by rw [cmpZ, if_pos h1]), rfl⟩
  · have d1 : decide (a < b) = false := decide_eq_false h1
    by_cases h2 : b < a
    · have d2 : decide (b < a) = true := decide_eq_true h2
      go_enter Try.func51, Try.ntmps51
      go_wp2_with (go_at_call 64; refine (isNaN_int _ _).mono ?_; rintro e w' ⟨rfl, rfl⟩)
      go_ret
      exact ⟨ret_int (by rw [cmpZ, if_neg (by omega), if_pos h2]), rfl⟩
    · have d2 : decide (b < a) = false := decide_eq_false h2
      go_enter Try.func51, Try.ntmps51
      go_wp2_with (go_at_call 64; refine (isNaN_int _ _).mono ?_; rintro e w' ⟨rfl, rfl⟩)
      go_ret
      exact ⟨ret_int (by rw [cmpZ, if_neg (by omega), if_neg (by omega)]), rfl⟩
theorem compare_int64 (a b : Int) (w : World) : Calls Try.prog 52 #[.int .i64 a, .int .i64 b] w fun e w' => e = .returned (.int .i64 (cmpZ a b)) ∧ w = w' := by
  by_cases h1 : a < b
  · have d1 : decide (a < b) = true := decide_eq_true h1
    go_enter Try.func52, Try.ntmps52
    go_wp2_with (go_at_call 65; refine (isNaN_int64 _ _).mono ?_; rintro e w' ⟨rfl, rfl⟩)
    go_ret
    exact ⟨ret_int (by rw [cmpZ, if_pos h1]), rfl⟩
  · have d1 : decide (a < b) = false := decide_eq_false h1
    by_cases h2 : b < a
    · have d2 : decide (b < a) = true := decide_eq_true h2
      go_enter Try.func52, Try.ntmps52
      go_wp2_with (go_at_call 65; refine (isNaN_int64 _ _).mono ?_; rintro e w' ⟨rfl, rfl⟩)
      go_ret
      exact ⟨ret_int (by rw [cmpZ, if_neg (by omega), if_pos h2]), rfl⟩
    · have d2 : decide (b < a) = false := decide_eq_false h2
      go_enter Try.func52, Try.ntmps52
      go_wp2_with (go_at_call 65; refine (isNaN_int64 _ _).mono ?_; rintro e w' ⟨rfl, rfl⟩)
      go_ret
      exact ⟨ret_int (by rw [cmpZ, if_neg (by omega), if_neg (by omega)]), rfl⟩

def orZ : List Int → Int
  | [] => 0
  | z :: zs => if z = 0 then orZ zs else z
theorem orZ_at {zs : List Int} {k : Nat} {z : Int} (h : ∀ y ∈ zs.take k, y = 0) (hz : zs[k]? = some z) (hne : z ≠ 0) : orZ zs = z := by
  induction zs generalizing k with
  | nil => simp at hz
  | cons a zs ih =>
    cases k with
    | zero =>
      simp at hz
      subst hz
      simp [orZ, hne]
    | succ k =>
      have ha : a = 0 := h a (by simp)
      subst ha
      simp only [orZ, if_true]
      exact ih (k := k) (fun y hy => h y (by simp [hy])) (by simpa using hz)
theorem orZ_zero {zs : List Int} (h : ∀ y ∈ zs, y = 0) : orZ zs = 0 := by
  induction zs with
  | nil => rfl
  | cons a zs ih =>
    have ha : a = 0 := h a (by simp)
    subst ha
    simp only [orZ, if_true]
    exact ih (fun y hy => h y (by simp [hy]))
set_option maxRecDepth 100000 in
theorem or_any (A : Option Addr) (c : Nat) (zs : List Int) (w : World) (B : Nat) (hs : Sl w B A (zs.map (Value.int .i64))) (hl : zs.length ≤ 65536) :
    Calls Try.prog 50 #[.slice A zs.length c] w fun e w' => e = .returned (.int .i64 (orZ zs)) ∧ w = w' := by
  have HS := Lib.hid hs
  clear hs
  go_enter Try.func50, Try.ntmps50
  go_wp2_with fail
  go_loop [8] (fun i => ∃ k : Nat, k ≤ zs.length ∧ i = .int .i64 k ∧ ∀ y ∈ zs.take k, y = 0) (fun i => zs.length - (intOf i).toNat)
  case atStart => exact ⟨0, Nat.zero_le _, rfl, by simp⟩
  case round =>
    obtain ⟨k, hk, rfl, hall⟩ := hrel
    have HA := Lib.hid hall
    clear hall
    by_cases hlt : k < zs.length
    · obtain ⟨z, hz⟩ : ∃ z, zs[k]? = some z := ⟨zs[k], by simp⟩
      obtain ⟨b, o, rfl, hb, hc⟩ := HS.out.int hz
      have HZ := Lib.hid hz
      clear hz
      by_cases h0 : z = 0
      · have d0 : (z != 0) = false := by simp [h0]
        have HT : Hid (∀ y ∈ zs.take (k + 1), y = 0) := Lib.hid (by
          intro y hy
          rw [take_snoc' HZ.out, List.mem_append, List.mem_singleton] at hy
          rcases hy with hy | rfl
          · exact HA.out y hy
          · exact h0)
        clear h0
        go_wp2_with fail
        go_round
        case rel => exact ⟨k + 1, by omega, by go_num, HT.out⟩
        case measure => simp [intOf]; omega
      · have d0 : (z != 0) = true := by simp [h0]
        have d0' : (z == 0) = false := by simp [h0]
        have HV := Lib.hid (orZ_at HA.out HZ.out h0)
        clear h0
        go_wp2_with fail
        go_ret
        exact ⟨ret_int HV.out.symm, rfl⟩
    · have hkk : k = zs.length := by omega
      subst hkk
      go_wp2_with fail
      go_ret
      refine ⟨ret_int (orZ_zero ?_).symm, rfl⟩
      have := HA.out
      rw [List.take_length] at this
      exact this

def cmpI (a b : IncT) : Int := orZ [cmpZ a.urg b.urg, cmpZ a.since b.since, cmpZ a.id b.id]
theorem cmpI_neg (a b : IncT) : cmpI a b < 0 ↔ ltI a b := by
  unfold cmpI ltI
  simp only [orZ, cmpZ]
  repeat' split
  all_goals omega
def aggI (x : IncT) : Value := .agg #[.int .i64 x.id, .int .i64 x.urg, .string x.code, .slice x.nA x.nodes.length x.nc, .int .i64 x.dist, .int .i64 x.since, .slice x.cA x.cl x.cc, .slice x.uA x.ul x.uc, .int .i64 x.merged, .bool x.closed]
def objI (x : IncT) : Obj := .cells #[.int .i64 x.id, .int .i64 x.urg, .string x.code, .slice x.nA x.nodes.length x.nc, .int .i64 x.dist, .int .i64 x.since, .slice x.cA x.cl x.cc, .slice x.uA x.ul x.uc, .int .i64 x.merged, .bool x.closed] 65

set_option maxRecDepth 100000 in
set_option maxHeartbeats 1000000 in
theorem cmpI_any (a b : IncT) (w : World) : Calls Try.prog 49 #[aggI a, aggI b] w fun e w' => e = .returned (.int .i64 (cmpI a b)) ∧ Below w.heap.size w w' := by
  unfold aggI
  have HB : Hid (Below w.heap.size w ((w.alloc (objI a)).alloc (objI b))) := Lib.hid (((Below.refl w.heap.size w).alloc (Nat.le_refl _) _).alloc (by simp) _)
  obtain ⟨W, hW⟩ : ∃ W, W = (w.alloc (objI a)).alloc (objI b) := ⟨_, rfl⟩
  have HC : Hid (∀ W', Below W.heap.size W W' → W'.cell? ⟨w.heap.size, 0, none⟩ = some (.int .i64 a.id) ∧ W'.cell? ⟨w.heap.size, 1, none⟩ = some (.int .i64 a.urg) ∧ W'.cell? ⟨w.heap.size, 5, none⟩ = some (.int .i64 a.since) ∧ W'.cell? ⟨w.heap.size + 1, 0, none⟩ = some (.int .i64 b.id) ∧ W'.cell? ⟨w.heap.size + 1, 1, none⟩ = some (.int .i64 b.urg) ∧ W'.cell? ⟨w.heap.size + 1, 5, none⟩ = some (.int .i64 b.since)) := Lib.hid (by
    intro W' hb
    have ka : ∀ j, W'.cell? ⟨w.heap.size, j, none⟩ = (w.alloc (objI a)).cell? ⟨w.heap.size, j, none⟩ := fun j => by
      rw [hb.cell (p := ⟨w.heap.size, j, none⟩) (by rw [hW]; simp; omega), hW, World.cell?_alloc_lt _ _ _ (by simp)]
    have kb : ∀ j, W'.cell? ⟨w.heap.size + 1, j, none⟩ = ((w.alloc (objI a)).alloc (objI b)).cell? ⟨w.heap.size + 1, j, none⟩ := fun j => by
      rw [hb.cell (p := ⟨w.heap.size + 1, j, none⟩) (by rw [hW]; simp), hW]
    refine ⟨?_, ?_, ?_, ?_, ?_, ?_⟩
    · rw [ka, objI, World.cell?_alloc_at (hn := rfl)]; rfl
    · rw [ka, objI, World.cell?_alloc_at (hn := rfl)]; rfl
    · rw [ka, objI, World.cell?_alloc_at (hn := rfl)]; rfl
    · rw [kb, objI, objI, World.cell?_alloc_at (hn := by simp)]; rfl
    · rw [kb, objI, objI, World.cell?_alloc_at (hn := by simp)]; rfl
    · rw [kb, objI, objI, World.cell?_alloc_at (hn := by simp)]; rfl)
  rw [← hW] at HB
  unfold objI at hW
  go_enter Try.func49, Try.ntmps49
  go_wp2_with fail
  rw [← hW]
  obtain ⟨k0, k1, k2, k3, k4, k5⟩ := HC.out W (Below.refl _ _)
  clear hW
  go_region_held3 (fun W' => Below W.heap.size W W' ∧ W'.cell? ⟨w.heap.size, 0, none⟩ = some (.int .i64 a.id) ∧ W'.cell? ⟨w.heap.size, 1, none⟩ = some (.int .i64 a.urg) ∧ W'.cell? ⟨w.heap.size, 5, none⟩ = some (.int .i64 a.since) ∧ W'.cell? ⟨w.heap.size + 1, 0, none⟩ = some (.int .i64 b.id) ∧ W'.cell? ⟨w.heap.size + 1, 1, none⟩ = some (.int .i64 b.urg) ∧ W'.cell? ⟨w.heap.size + 1, 5, none⟩ = some (.int .i64 b.since))
    (first | exact ⟨(Below.refl _ _).drew, HC.out _ (Below.refl _ _).drew⟩ | assumption | exact ⟨((Below.refl _ _).drew.alloc (Nat.le_refl _) _), HC.out _ ((Below.refl _ _).drew.alloc (Nat.le_refl _) _)⟩)
    (first
      | (go_at_call 51; refine (compare_int _ _ _).mono ?_; rintro e w' ⟨rfl, rfl⟩)
      | (go_at_call 52; refine (compare_int64 _ _ _).mono ?_; rintro e w' ⟨rfl, rfl⟩)
      | (go_at_call 50; refine (or_any (some ⟨W.heap.size, 0, none⟩) 3 [cmpZ a.urg b.urg, cmpZ a.since b.since, cmpZ a.id b.id] _ _ (Sl.lit W.drew [.int .i64 (cmpZ a.urg b.urg), .int .i64 (cmpZ a.since b.since), .int .i64 (cmpZ a.id b.id)] 3 rfl) (by simp)).mono ?_; rintro e w' ⟨rfl, rfl⟩))
  go_wp2_with fail
  go_ret
  exact ⟨rfl, HB.out.trans (((Below.refl _ _).drew.alloc (Nat.le_refl _) _).mono HB.out.size)⟩

set_option maxRecDepth 100000 in
set_option maxHeartbeats 1000000 in
theorem ahead_any (a b : IncT) (w : World) : Calls Try.prog 38 #[aggI a, aggI b] w fun e w' => e = .returned (.bool (decide (ltI a b))) ∧ Below w.heap.size w w' := by
  unfold aggI
  have HB : Hid (Below w.heap.size w ((w.alloc (objI a)).alloc (objI b))) := Lib.hid (((Below.refl w.heap.size w).alloc (Nat.le_refl _) _).alloc (by simp) _)
  unfold objI at HB
  obtain ⟨aid, aurg, acode, anA, anodes, anc, adist, asince, acA, acl, acc, auA, aul, auc, amerged, aclosed⟩ := a
  obtain ⟨bid, burg, bcode, bnA, bnodes, bnc, bdist, bsince, bcA, bcl, bcc, buA, bul, buc, bmerged, bclosed⟩ := b
  simp only at HB ⊢
  by_cases h1 : aurg = burg
  · have d1 : (aurg != burg) = false := by simp [h1]
    by_cases h2 : asince = bsince
    · have d2 : (asince != bsince) = false := by simp [h2]
      have HV : Hid (decide (aid < bid) = decide (ltI ⟨aid, aurg, acode, anA, anodes, anc, adist, asince, acA, acl, acc, auA, aul, auc, amerged, aclosed⟩ ⟨bid, burg, bcode, bnA, bnodes, bnc, bdist, bsince, bcA, bcl, bcc, buA, bul, buc, bmerged, bclosed⟩)) := Lib.hid (decide_eq_decide.2 (by unfold ltI; simp only; omega))
      clear h1 h2
      go_enter Try.func38, Try.ntmps38
      go_wp2_with fail
      go_ret
      exact ⟨ret_bool HV.out, HB.out⟩
    · have d2 : (asince != bsince) = true := by simp [h2]
      have d2' : (asince == bsince) = false := by simp [h2]
      have HV : Hid (decide (asince < bsince) = decide (ltI ⟨aid, aurg, acode, anA, anodes, anc, adist, asince, acA, acl, acc, auA, aul, auc, amerged, aclosed⟩ ⟨bid, burg, bcode, bnA, bnodes, bnc, bdist, bsince, bcA, bcl, bcc, buA, bul, buc, bmerged, bclosed⟩)) := Lib.hid (decide_eq_decide.2 (by unfold ltI; simp only; omega))
      clear h1 h2
      go_enter Try.func38, Try.ntmps38
      go_wp2_with fail
      go_ret
      exact ⟨ret_bool HV.out, HB.out⟩
  · have d1 : (aurg != burg) = true := by simp [h1]
    have d1' : (aurg == burg) = false := by simp [h1]
    have HV : Hid (decide (aurg < burg) = decide (ltI ⟨aid, aurg, acode, anA, anodes, anc, adist, asince, acA, acl, acc, auA, aul, auc, amerged, aclosed⟩ ⟨bid, burg, bcode, bnA, bnodes, bnc, bdist, bsince, bcA, bcl, bcc, buA, bul, buc, bmerged, bclosed⟩)) := Lib.hid (decide_eq_decide.2 (by unfold ltI; simp only; omega))
    clear h1
    go_enter Try.func38, Try.ntmps38
    go_wp2_with fail
    go_ret
    exact ⟨ret_bool HV.out, HB.out⟩
end Go.Proofs.Ytpomakmmjbimfaa
