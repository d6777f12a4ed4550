/-
  config.parseLine at the lines of edges, units and plans; all lines of a configuration (printed by genpl36.py).
-/
import Derived.Test.YtloacoalmfaceaaGreatDoorPpl6
import Derived.Test.YtloacoalmfaceaaGreatDoorLns6
namespace Go.Proofs.YtloacoalmfaceaaGreatDoor
open Go.RowKit Go.Maps Go.Shelf

theorem sl_tail {w : World} {n : Nat} (x : List UInt8) (ws : List (List UInt8)) (hn : n = w.heap.size) : Sl (w.alloc (.cells ((x :: ws).map strV).toArray 9)) (w.alloc (.cells ((x :: ws).map strV).toArray 9)).heap.size (some ⟨n, 1, none⟩) (ws.map strV) := fun j u hj => by
  subst hn
  refine ⟨_, _, rfl, by simp, ?_⟩
  rw [World.cell?_alloc_at (hn := rfl)]
  have : ((x :: ws).map strV)[1 + j]? = some u := by rw [Nat.add_comm]; simpa using hj
  simpa using this
theorem kind_blank (k : Int) : (32 : UInt8) ∉ kindName k ∧ (10 : UInt8) ∉ kindName k := by
  unfold kindName
  split
  · decide
  · split
    · decide
    · split <;> decide
theorem time_blank (z : Int) : (32 : UInt8) ∉ timeT z ∧ (10 : UInt8) ∉ timeT z := by
  unfold timeT
  split
  · decide
  · exact ⟨dec_blank z, nl_dec z⟩
theorem time40 {z : Int} (h : z = 4611686018427387904 ∨ Num18 z) : (timeT z).length ≤ 40 := by
  refine time_len ?_
  rcases h with h | h
  · omega
  · have := h.2
    omega
set_option maxRecDepth 100000 in
set_option maxHeartbeats 4000000 in
theorem line_edge (cb : Nat) (c : Cfg) (W : World) (h : PAt cb c W) (hr : Rdy W) (t : T3) (ha : Num18 t.a) (hb : Num18 t.b) (hc : t.c = 4611686018427387904 ∨ Num18 t.c) (hlen : c.es.length ≤ 100000000) :
    Calls Tryz.prog 38 #[.pointer (some ⟨cb, 0, none⟩), .string (bs (Lib.join (wEdge :: [dec t.a, dec t.b, timeT t.c]) [32]))] W (RetLn cb W 3 (fun c' => isEdge c t c')) := by
  have hbl : ∀ p ∈ wEdge :: [dec t.a, dec t.b, timeT t.c], (32 : UInt8) ∉ p := by
    intro p hp
    simp only [List.mem_cons, List.mem_nil_iff, or_false] at hp
    rcases hp with rfl | rfl | rfl | rfl
    · decide
    · exact dec_blank _
    · exact dec_blank _
    · exact (time_blank _).1
  have hsm : ∀ p ∈ wEdge :: [dec t.a, dec t.b, timeT t.c], p.length ≤ 40 := by
    intro p hp
    simp only [List.mem_cons, List.mem_nil_iff, or_false] at hp
    rcases hp with rfl | rfl | rfl | rfl
    · decide
    · exact dec40 (by have := ha.2; omega)
    · exact dec40 (by have := hb.2; omega)
    · exact time40 hc
  have hcnt : (wEdge :: [dec t.a, dec t.b, timeT t.c]).length ≤ 1010 := by simp
  have hl4 : (Lib.join (wEdge :: [dec t.a, dec t.b, timeT t.c]) [32]).length < 4294967281 := by
    have h1 := join_le (k := 40) (acc := wEdge :: [dec t.a, dec t.b, timeT t.c]) [32] (by simp) hsm
    have h2 : (wEdge :: [dec t.a, dec t.b, timeT t.c]).length ≤ 1010 := hcnt
    have h3 : (40 + 1) * (wEdge :: [dec t.a, dec t.b, timeT t.c]).length ≤ 41 * 1010 := Nat.mul_le_mul_left _ h2
    omega
  have HS := Lib.hid (split_any (wEdge :: [dec t.a, dec t.b, timeT t.c]) (by simp) hbl hl4 W hr)
  have hbA : Below W.heap.size W (W.alloc (.cells ((wEdge :: [dec t.a, dec t.b, timeT t.c]).map strV).toArray 9)) := (Below.refl _ _).alloc (Nat.le_refl _) _
  have k0 : (W.alloc (.cells ((wEdge :: [dec t.a, dec t.b, timeT t.c]).map strV).toArray 9)).cell? ⟨W.heap.size, 0, none⟩ = some (.string (bs wEdge)) := by rw [World.cell?_alloc_at (hn := rfl)]; rfl
  have hsl := sl_tail (w := W) (n := W.heap.size) wEdge ([dec t.a, dec t.b, timeT t.c]) rfl
  obtain ⟨W1, hW1⟩ : ∃ Y, Y = W.alloc (.cells ((wEdge :: [dec t.a, dec t.b, timeT t.c]).map strV).toArray 9) := ⟨_, rfl⟩
  have HP := Lib.hid (h.next hbA)
  have HB := Lib.hid (hbA.mono (Nat.le_of_lt h.lt))
  have HRY := Lib.hid (hr.below hbA)
  have HOB := Lib.hid (And.intro (show (Value.slice c.uA c.us.length c.uc).ownBlock ≠ some W.heap.size from fun e => absurd (h.us.lt_size _ e) (Nat.lt_irrefl _)) (show W.heap.size ≠ cb from fun e => absurd h.lt (by omega)))
  rw [← hW1] at k0 HP HB HS HRY hsl
  have HSL := Lib.hid hsl
  rw [show (wEdge :: [dec t.a, dec t.b, timeT t.c]).length = 4 from rfl] at HS
  have e1 : ((bs wEdge).toList == [101, 100, 103, 101]) = true := eq_toL.trans (decide_eq_true (by rw [bs_data]; decide))
  obtain ⟨T, hT⟩ : ∃ T, T = bs (Lib.join (wEdge :: [dec t.a, dec t.b, timeT t.c]) [32]) := ⟨_, rfl⟩
  obtain ⟨NW, hNW⟩ : ∃ N, N = bs wEdge := ⟨_, rfl⟩
  rw [← hT] at HS ⊢
  rw [← hNW] at k0 e1
  have HC : Hid (∀ X, Below W1.heap.size W1 X → Sl X X.heap.size (some ⟨W.heap.size, 1, none⟩) (([dec t.a, dec t.b, timeT t.c]).map strV)) := Lib.hid (fun X hX => (HSL.out.below hX).more hX.size)
  have HCALL : Hid (∀ q, Calls Tryz.prog 71 #[.pointer (some ⟨cb, 0, none⟩), .slice (some ⟨W.heap.size, 1, none⟩) 3 3] (W1.drewN q) (RetBool cb (W1.drewN q) (fun c' => isEdge c t c'))) := Lib.hid (fun q => parseEdge_any cb c _ (HP.out.next (below_dr (Below.refl _ _) q)) t.a t.b t.c ha hb hc hlen W.heap.size 1 (HC.out _ (below_dr (Below.refl _ _) q)))
  clear h hbA hr hbl hl4 hsm hcnt hW1 hT hNW hsl ha hb hc hlen
  go_enter Tryz.func38, Tryz.ntmps38
  go_wp2_with fail
  refine HS.out.mono ?_
  rintro e w' ⟨rfl, hw⟩
  rw [hw]
  clear hw w' HS
  go_wp2_with fail
  go_quiet (fail)
  go_wp2_with fail
  refine (HCALL.out _).mono ?_
  rintro e w' ⟨rfl, c', hst, hp', hb'⟩
  have HE := Lib.hid (And.intro hst (And.intro hp' (HB.out.trans (below_dr (Below.refl _ _) _ |>.trans hb'))))
  clear hst hp' hb'
  go_wp2_with fail
  go_ret
  exact ⟨rfl, c', HE.out.1, HE.out.2.1, HE.out.2.2⟩
set_option maxRecDepth 100000 in
set_option maxHeartbeats 4000000 in
theorem line_unt (cb : Nat) (c : Cfg) (W : World) (h : PAt cb c W) (hr : Rdy W) (t : T3) (ha : KindOk t.a) (hb : Num18 t.b) (hc : Num18 t.c) (hlen : c.us.length ≤ 100000000) :
    Calls Tryz.prog 38 #[.pointer (some ⟨cb, 0, none⟩), .string (bs (Lib.join (wUnit :: [kindName t.a, dec t.b, dec t.c]) [32]))] W (RetLn cb W 4 (fun c' => isUnt c t c')) := by
  have hbl : ∀ p ∈ wUnit :: [kindName t.a, dec t.b, dec t.c], (32 : UInt8) ∉ p := by
    intro p hp
    simp only [List.mem_cons, List.mem_nil_iff, or_false] at hp
    rcases hp with rfl | rfl | rfl | rfl
    · decide
    · exact (kind_blank _).1
    · exact dec_blank _
    · exact dec_blank _
  have hsm : ∀ p ∈ wUnit :: [kindName t.a, dec t.b, dec t.c], p.length ≤ 40 := by
    intro p hp
    simp only [List.mem_cons, List.mem_nil_iff, or_false] at hp
    rcases hp with rfl | rfl | rfl | rfl
    · decide
    · exact name40 _
    · exact dec40 (by have := hb.2; omega)
    · exact dec40 (by have := hc.2; omega)
  have hcnt : (wUnit :: [kindName t.a, dec t.b, dec t.c]).length ≤ 1010 := by simp
  have hl4 : (Lib.join (wUnit :: [kindName t.a, dec t.b, dec t.c]) [32]).length < 4294967281 := by
    have h1 := join_le (k := 40) (acc := wUnit :: [kindName t.a, dec t.b, dec t.c]) [32] (by simp) hsm
    have h2 : (wUnit :: [kindName t.a, dec t.b, dec t.c]).length ≤ 1010 := hcnt
    have h3 : (40 + 1) * (wUnit :: [kindName t.a, dec t.b, dec t.c]).length ≤ 41 * 1010 := Nat.mul_le_mul_left _ h2
    omega
  have HS := Lib.hid (split_any (wUnit :: [kindName t.a, dec t.b, dec t.c]) (by simp) hbl hl4 W hr)
  have hbA : Below W.heap.size W (W.alloc (.cells ((wUnit :: [kindName t.a, dec t.b, dec t.c]).map strV).toArray 9)) := (Below.refl _ _).alloc (Nat.le_refl _) _
  have k0 : (W.alloc (.cells ((wUnit :: [kindName t.a, dec t.b, dec t.c]).map strV).toArray 9)).cell? ⟨W.heap.size, 0, none⟩ = some (.string (bs wUnit)) := by rw [World.cell?_alloc_at (hn := rfl)]; rfl
  have hsl := sl_tail (w := W) (n := W.heap.size) wUnit ([kindName t.a, dec t.b, dec t.c]) rfl
  obtain ⟨W1, hW1⟩ : ∃ Y, Y = W.alloc (.cells ((wUnit :: [kindName t.a, dec t.b, dec t.c]).map strV).toArray 9) := ⟨_, rfl⟩
  have HP := Lib.hid (h.next hbA)
  have HB := Lib.hid (hbA.mono (Nat.le_of_lt h.lt))
  have HRY := Lib.hid (hr.below hbA)
  have HOB := Lib.hid (And.intro (show (Value.slice c.uA c.us.length c.uc).ownBlock ≠ some W.heap.size from fun e => absurd (h.us.lt_size _ e) (Nat.lt_irrefl _)) (show W.heap.size ≠ cb from fun e => absurd h.lt (by omega)))
  rw [← hW1] at k0 HP HB HS HRY hsl
  have HSL := Lib.hid hsl
  rw [show (wUnit :: [kindName t.a, dec t.b, dec t.c]).length = 4 from rfl] at HS
  have e1 : ((bs wUnit).toList == [101, 100, 103, 101]) = false := eq_toL.trans (decide_eq_false (by rw [bs_data]; decide))
  have e2 : ((bs wUnit).toList == [117, 110, 105, 116]) = true := eq_toL.trans (decide_eq_true (by rw [bs_data]; decide))
  obtain ⟨T, hT⟩ : ∃ T, T = bs (Lib.join (wUnit :: [kindName t.a, dec t.b, dec t.c]) [32]) := ⟨_, rfl⟩
  obtain ⟨NW, hNW⟩ : ∃ N, N = bs wUnit := ⟨_, rfl⟩
  rw [← hT] at HS ⊢
  rw [← hNW] at k0 e1 e2
  have HC : Hid (∀ X, Below W1.heap.size W1 X → Sl X X.heap.size (some ⟨W.heap.size, 1, none⟩) (([kindName t.a, dec t.b, dec t.c]).map strV)) := Lib.hid (fun X hX => (HSL.out.below hX).more hX.size)
  have HCALL : Hid (∀ q, Calls Tryz.prog 72 #[.pointer (some ⟨cb, 0, none⟩), .slice (some ⟨W.heap.size, 1, none⟩) 3 3] (W1.drewN q) (RetBool cb (W1.drewN q) (fun c' => isUnt c t c'))) := Lib.hid (fun q => parseUnit_any cb c _ (HP.out.next (below_dr (Below.refl _ _) q)) (HRY.out.below (below_dr (Below.refl _ _) q)) t.a t.b t.c ha hb hc hlen W.heap.size 1 HOB.out.1 HOB.out.2 (HC.out _ (below_dr (Below.refl _ _) q)))
  clear h hbA hr hbl hl4 hsm hcnt hW1 hT hNW hsl ha hb hc hlen
  go_enter Tryz.func38, Tryz.ntmps38
  go_wp2_with fail
  refine HS.out.mono ?_
  rintro e w' ⟨rfl, hw⟩
  rw [hw]
  clear hw w' HS
  go_wp2_with fail
  go_quiet (fail)
  go_wp2_with fail
  refine (HCALL.out _).mono ?_
  rintro e w' ⟨rfl, c', hst, hp', hb'⟩
  have HE := Lib.hid (And.intro hst (And.intro hp' (HB.out.trans (below_dr (Below.refl _ _) _ |>.trans hb'))))
  clear hst hp' hb'
  go_wp2_with fail
  go_ret
  exact ⟨rfl, c', HE.out.1, HE.out.2.1, HE.out.2.2⟩
set_option maxRecDepth 100000 in
set_option maxHeartbeats 4000000 in
theorem line_plan (cb : Nat) (c : Cfg) (W : World) (h : PAt cb c W) (hr : Rdy W) (code : ByteArray) (urg : Int) (kinds : List Int) (hco : CodeOk code) (hu : Num18 urg) (hk : ∀ k ∈ kinds, KindOk k) (kl : Nat) (hkl : kinds.length = kl) (hk1 : 1 ≤ kl) (hk8 : kl ≤ 1000) (hlen : c.pl.length ≤ 100000000) :
    Calls Tryz.prog 38 #[.pointer (some ⟨cb, 0, none⟩), .string (bs (Lib.join (wPlan :: code.data.toList :: dec urg :: kinds.map kindName) [32]))] W (RetLn cb W 5 (fun c' => isPlan c code urg kinds c')) := by
  have hbl : ∀ p ∈ wPlan :: code.data.toList :: dec urg :: kinds.map kindName, (32 : UInt8) ∉ p := by
    intro p hp
    simp only [List.mem_cons, List.mem_map] at hp
    rcases hp with rfl | rfl | rfl | ⟨k, _, rfl⟩
    · decide
    · intro hm
      have := (hco.2 _ hm).1
      have e : (32 : UInt8).toNat = 32 := rfl
      omega
    · exact dec_blank _
    · exact (kind_blank _).1
  have hsm : ∀ p ∈ wPlan :: code.data.toList :: dec urg :: kinds.map kindName, p.length ≤ 40 := by
    intro p hp
    simp only [List.mem_cons, List.mem_map] at hp
    rcases hp with rfl | rfl | rfl | ⟨k, _, rfl⟩
    · decide
    · have := hco.1.2
      simpa using this
    · exact dec40 (by have := hu.2; omega)
    · exact name40 k
  have hcnt : (wPlan :: code.data.toList :: dec urg :: kinds.map kindName).length ≤ 1010 := by simp; omega
  have hkp : ¬ kl + 2 = 0 := by omega
  have hkq : (1 : Int) ≤ (kl : Int) + 2 + 1 := by omega
  have hl4 : (Lib.join (wPlan :: code.data.toList :: dec urg :: kinds.map kindName) [32]).length < 4294967281 := by
    have h1 := join_le (k := 40) (acc := wPlan :: code.data.toList :: dec urg :: kinds.map kindName) [32] (by simp) hsm
    have h2 : (wPlan :: code.data.toList :: dec urg :: kinds.map kindName).length ≤ 1010 := hcnt
    have h3 : (40 + 1) * (wPlan :: code.data.toList :: dec urg :: kinds.map kindName).length ≤ 41 * 1010 := Nat.mul_le_mul_left _ h2
    omega
  have HS := Lib.hid (split_any (wPlan :: code.data.toList :: dec urg :: kinds.map kindName) (by simp) hbl hl4 W hr)
  have hbA : Below W.heap.size W (W.alloc (.cells ((wPlan :: code.data.toList :: dec urg :: kinds.map kindName).map strV).toArray 9)) := (Below.refl _ _).alloc (Nat.le_refl _) _
  have k0 : (W.alloc (.cells ((wPlan :: code.data.toList :: dec urg :: kinds.map kindName).map strV).toArray 9)).cell? ⟨W.heap.size, 0, none⟩ = some (.string (bs wPlan)) := by rw [World.cell?_alloc_at (hn := rfl)]; rfl
  have hsl := sl_tail (w := W) (n := W.heap.size) wPlan (code.data.toList :: dec urg :: kinds.map kindName) rfl
  obtain ⟨W1, hW1⟩ : ∃ Y, Y = W.alloc (.cells ((wPlan :: code.data.toList :: dec urg :: kinds.map kindName).map strV).toArray 9) := ⟨_, rfl⟩
  have HP := Lib.hid (h.next hbA)
  have HB := Lib.hid (hbA.mono (Nat.le_of_lt h.lt))
  have HRY := Lib.hid (hr.below hbA)
  have HOB := Lib.hid (And.intro (show (Value.slice c.uA c.us.length c.uc).ownBlock ≠ some W.heap.size from fun e => absurd (h.us.lt_size _ e) (Nat.lt_irrefl _)) (show W.heap.size ≠ cb from fun e => absurd h.lt (by omega)))
  rw [← hW1] at k0 HP HB HS HRY hsl
  have HSL := Lib.hid hsl
  rw [show (wPlan :: code.data.toList :: dec urg :: kinds.map kindName).length = kl + 2 + 1 from by simp; omega] at HS
  have e1 : ((bs wPlan).toList == [101, 100, 103, 101]) = false := eq_toL.trans (decide_eq_false (by rw [bs_data]; decide))
  have e2 : ((bs wPlan).toList == [117, 110, 105, 116]) = false := eq_toL.trans (decide_eq_false (by rw [bs_data]; decide))
  have e3 : ((bs wPlan).toList == [112, 108, 97, 110]) = true := eq_toL.trans (decide_eq_true (by rw [bs_data]; decide))
  obtain ⟨T, hT⟩ : ∃ T, T = bs (Lib.join (wPlan :: code.data.toList :: dec urg :: kinds.map kindName) [32]) := ⟨_, rfl⟩
  obtain ⟨NW, hNW⟩ : ∃ N, N = bs wPlan := ⟨_, rfl⟩
  rw [← hT] at HS ⊢
  rw [← hNW] at k0 e1 e2 e3
  have HC : Hid (∀ X, Below W1.heap.size W1 X → Sl X X.heap.size (some ⟨W.heap.size, 1, none⟩) ((code.data.toList :: dec urg :: kinds.map kindName).map strV)) := Lib.hid (fun X hX => (HSL.out.below hX).more hX.size)
  have HCALL : Hid (∀ q, Calls Tryz.prog 73 #[.pointer (some ⟨cb, 0, none⟩), .slice (some ⟨W.heap.size, 1, none⟩) (kl + 2) (kl + 2)] (W1.drewN q) (RetBool cb (W1.drewN q) (fun c' => isPlan c code urg kinds c'))) := Lib.hid (fun q => parsePlan_any cb c _ (HP.out.next (below_dr (Below.refl _ _) q)) (HRY.out.below (below_dr (Below.refl _ _) q)) code urg kinds hco hu hk kl hkl hk1 hk8 hlen W.heap.size 1 (HC.out _ (below_dr (Below.refl _ _) q)))
  clear h hbA hr hbl hl4 hsm hcnt hW1 hT hNW hsl hco hu hk hkl hk1 hk8 hlen
  go_enter Tryz.func38, Tryz.ntmps38
  go_wp2_with fail
  refine HS.out.mono ?_
  rintro e w' ⟨rfl, hw⟩
  rw [hw]
  clear hw w' HS
  go_wp2_with fail
  go_quiet (fail)
  go_wp2_with fail
  refine (HCALL.out _).mono ?_
  rintro e w' ⟨rfl, c', hst, hp', hb'⟩
  have HE := Lib.hid (And.intro hst (And.intro hp' (HB.out.trans (below_dr (Below.refl _ _) _ |>.trans hb'))))
  clear hst hp' hb'
  go_wp2_with fail
  go_ret
  exact ⟨rfl, c', HE.out.1, HE.out.2.1, HE.out.2.2⟩
end Go.Proofs.YtloacoalmfaceaaGreatDoor
