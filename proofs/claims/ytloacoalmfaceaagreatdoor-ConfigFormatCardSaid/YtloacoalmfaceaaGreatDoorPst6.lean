/-
  config.numbers; the configuration under way in config.Parse: where it lies, what an append to one of its rows does (printed by genpst6.py).
-/
import Derived.Test.YtloacoalmfaceaaGreatDoorNmb6
namespace Go.Proofs.YtloacoalmfaceaaGreatDoor
open Go.RowKit Go.Maps Go.Shelf

theorem int_info : (Tryz.prog.info? 3).map (fun i => (i.zero, i.size, i.bytes)) = some (some (.int .i64 0), 1, 8) := by kernel_rfl
set_option maxRecDepth 100000 in
set_option maxHeartbeats 4000000 in
theorem numbers_any (zs : List Int) (hz : ∀ z ∈ zs, 0 ≤ z ∧ z < 1000000000000000000) (hl : zs.length ≤ 1000) (A : Option Addr) (c : Nat) (W : World) (B : Nat) (hs : Sl W B A ((zs.map dec).map strV)) (hB : B ≤ W.heap.size) :
    Calls Tryz.prog 87 #[.slice A zs.length c] W fun e w' => ∃ v, e = .returned (.tuple #[v, .bool true]) ∧ OwnI w' W.heap.size 3 v zs ∧ Below W.heap.size W w' := by
  have HS := Lib.hid (And.intro hs hz)
  clear hs hz
  go_enter Tryz.func87, Tryz.ntmps87
  go_wp2_with fail
  go_loopw [4, 11] (fun u i Y => ∃ k : Nat, k ≤ zs.length ∧ i = .int .i64 k ∧ OwnI Y W.heap.size 3 u (zs.take k) ∧ Below W.heap.size W Y) (fun _ i _ => zs.length - (intOf i).toNat)
  case atStart => exact ⟨0, Nat.zero_le _, rfl, by simpa using OwnV.nil W W.heap.size 3, Below.refl _ _⟩
  case round =>
    obtain ⟨k, hk, rfl, hown, hb⟩ := hrel
    have HB := Lib.hid (And.intro hb hown)
    by_cases hlt : k < zs.length
    · obtain ⟨z, hz⟩ : ∃ z, zs[k]? = some z := ⟨zs[k], by simp⟩
      obtain ⟨b, o, hA, hbb, hcz0⟩ := (HS.out.1) k (strV (dec z)) (by simp [hz])
      have hcz := (hb.cell (p := ⟨b, o + k, none⟩) (Nat.lt_of_lt_of_le hbb hB)).trans hcz0
      rw [hA]
      have hzr := HS.out.2 z (List.mem_of_getElem? hz)
      have HZ := Lib.hid hz
      have HN := Lib.hid (number_any (bs (dec z)) z (numb_dec hzr.1 hzr.2) wr)
      clear hz hA hcz0 hbb hb hown hzr
      go_wp2_with fail
      refine HN.out.mono ?_
      rintro e w2 ⟨rfl, hb2⟩
      have hown2 := HB.out.2.kept_new hb2
      have HB2 := Lib.hid (HB.out.1.trans (hb2.mono HB.out.1.size))
      have htk : (zs.take k).length ≤ 1000 := by simp; omega
      clear hb2 hcz HN
      go_wp2_with (at_builtin; refine wpList_append_one (f := Value.int .i64) _ rfl _ _ 22 rfl W.heap.size 3 Tryz.underlying22 int_info rfl (by omega) _ _ w2 z rfl rfl rfl hown2 rfl (by omega) HB2.out.size ?_; intro v3 w3 hown3 hg)
      go_roundw
      case rel => exact ⟨k + 1, by omega, by go_num, by rw [take_snoc' HZ.out]; exact hown3, HB2.out.grown hg HB2.out.size hown2.ge_base⟩
      case measure => simp [intOf]; omega
    · have hkk : k = zs.length := by omega
      subst hkk
      clear hb hown
      go_wp2_with fail
      go_ret2
      exact ⟨_, rfl, by have := HB.out.2; rw [List.take_length] at this; exact this, HB.out.1⟩
def planC (p : Plan) : List Value := [.string p.code, .int .i64 p.urg, .slice p.kA p.kinds.length p.kc]
theorem planC_len (p : Plan) : (planC p).length = 3 := rfl
/-- the configuration under way lies in block cb; its rows were made behind it. -/
structure PAt (cb : Nat) (c : Cfg) (W : World) : Prop where
  cc : W.heap[cb]? = some (.cells c.cells.toArray 27 (0, 0))
  ds : OwnI W (cb + 1) 3 (.slice c.dA c.ds.length c.dc) c.ds
  es : OwnR cells3 3 W (cb + 1) 50 (.slice c.eA c.es.length c.ec) c.es
  us : OwnR cells3 3 W (cb + 1) 53 (.slice c.uA c.us.length c.uc) c.us
  pl : OwnR planC 3 W (cb + 1) 43 (.slice c.pA c.pl.length c.pc) c.pl
  ks : ∀ p ∈ c.pl, OwnI W (cb + 1) 3 (.slice p.kA p.kinds.length p.kc) p.kinds
  ten : c.ps.length = 10
theorem rows_apart {W : World} {base base' : Nat} {e e' : TypeId} {s s' n n' : Nat} {v v' : Value} {xs xs' : List Value} (h : W.ownsRow base e s v n xs) (h' : W.ownsRow base' e' s' v' n' xs') (hne : e ≠ e') {k : Nat} (hk : v.ownBlock = some k) : v'.ownBlock ≠ some k := by
  intro hk'
  obtain ⟨_, h2⟩ := h
  obtain ⟨_, h3⟩ := h'
  rcases h2 with ⟨rfl, _⟩ | ⟨g, cap, cur, rfl, _, hh, _⟩
  · cases hk
  · rcases h3 with ⟨rfl, _⟩ | ⟨g', cap', cur', rfl, _, hh', _⟩
    · cases hk'
    · cases hk
      cases hk'
      rw [hh] at hh'
      simp at hh'
      exact hne hh'.2
theorem own_n {w : World} {base : Nat} {e : TypeId} {s n m cp : Nat} {A : Option Addr} {xs : List Value} (h : w.ownsRow base e s (.slice A n cp) m xs) : n = m := by
  rcases h.2 with ⟨e1, e2⟩ | ⟨g, cap, cur, e1, _⟩
  · injection e1 with _ e3 _
    omega
  · injection e1
section
variable {cb : Nat} {c : Cfg} {W W' W1 : World}
theorem PAt.lt (h : PAt cb c W) : cb < W.heap.size := (Array.getElem?_eq_some_iff.1 h.cc).1
theorem PAt.next (h : PAt cb c W) (hb : Below W.heap.size W W') : PAt cb c W' :=
  ⟨(hb.block cb h.lt).trans h.cc, h.ds.kept_new hb, h.es.kept_new hb, h.us.kept_new hb, h.pl.kept_new hb, fun p hp => (h.ks p hp).kept_new hb, h.ten⟩
theorem PAt.cell (h : PAt cb c W) {j : Nat} {u : Value} (hj : c.cells[j]? = some u) : W.cell? ⟨cb, j, none⟩ = some u ∧ W.frozen? ⟨cb, j, none⟩ = false :=
  ⟨(cell_of_row W cb j _ _ _ h.cc).trans (by simpa using hj), frozen_of_row W cb j _ _ h.cc⟩
theorem PAt.set_cell (h : PAt cb c W) (j : Nat) (u : Value) : (W.setCell ⟨cb, j, none⟩ u).heap[cb]? = some (.cells (c.cells.toArray.setIfInBounds j u) 27 (0, 0)) := by
  rw [heap_setCell_same W cb j _ _ _ h.cc]
theorem PAt.put_cen (h : PAt cb c W) (z : Int) : PAt cb { c with cen := z } (W.setCell ⟨cb, 0, none⟩ (.int .i64 z)) ∧ Below cb W (W.setCell ⟨cb, 0, none⟩ (.int .i64 z)) := by
  have ho : Only (fun b => b = cb) W (W.setCell ⟨cb, 0, none⟩ (.int .i64 z)) := Only.setCell (S := fun b => b = cb) Only.refl (a := ⟨cb, 0, none⟩) (fun _ => rfl) _
  have hk : ∀ {e : TypeId} {s n : Nat} {v : Value} {xs : List Value}, W.ownsRow (cb + 1) e s v n xs → (W.setCell ⟨cb, 0, none⟩ (.int .i64 z)).ownsRow (cb + 1) e s v n xs := fun hr => ho.row hr (fun k e q => by have := (World.ownsRow.lt hr k e).1; omega)
  refine ⟨⟨(h.set_cell 0 _).trans ?_, hk h.ds, hk h.es, hk h.us, hk h.pl, fun p hp => hk (h.ks p hp), h.ten⟩, ho.below (Nat.le_of_lt h.lt) (fun j e => by omega)⟩
  simp [Cfg.cells]
theorem PAt.put_par (h : PAt cb c W) (k : Nat) (z : Int) : PAt cb { c with ps := c.ps.set k z } (W.setCell ⟨cb, 5 + k, none⟩ (.int .i64 z)) ∧ Below cb W (W.setCell ⟨cb, 5 + k, none⟩ (.int .i64 z)) := by
  have ho : Only (fun b => b = cb) W (W.setCell ⟨cb, 5 + k, none⟩ (.int .i64 z)) := Only.setCell (S := fun b => b = cb) Only.refl (a := ⟨cb, 5 + k, none⟩) (fun _ => rfl) _
  have hk : ∀ {e : TypeId} {s n : Nat} {v : Value} {xs : List Value}, W.ownsRow (cb + 1) e s v n xs → (W.setCell ⟨cb, 5 + k, none⟩ (.int .i64 z)).ownsRow (cb + 1) e s v n xs := fun hr => ho.row hr (fun k e q => by have := (World.ownsRow.lt hr k e).1; omega)
  refine ⟨⟨(h.set_cell (5 + k) _).trans ?_, hk h.ds, hk h.es, hk h.us, hk h.pl, fun p hp => hk (h.ks p hp), by simpa using h.ten⟩, ho.below (Nat.le_of_lt h.lt) (fun j e => by omega)⟩
  simp only [Cfg.cells, List.setIfInBounds_toArray, List.map_set]
  rw [List.set_append_right _ _ (by simp)]
  simp
theorem PAt.put_ds (h : PAt cb c W) (hpl : c.pl = []) {A : Option Addr} {n cp : Nat} {z : Int} (hown : OwnI W1 (cb + 1) 3 (.slice A n cp) (c.ds ++ [z])) (hg : W.grownBy W1 (Value.slice c.dA c.ds.length c.dc).ownBlock) :
    W1.cell? ⟨cb, 1, none⟩ = some (.slice c.dA c.ds.length c.dc) ∧ W1.frozen? ⟨cb, 1, none⟩ = false ∧ PAt cb { c with dA := A, dc := cp, ds := c.ds ++ [z] } (W1.setCell ⟨cb, 1, none⟩ (.slice A n cp)) ∧ Below cb W (W1.setCell ⟨cb, 1, none⟩ (.slice A n cp)) := by
  have hn : n = (c.ds ++ [z]).length := own_n hown
  subst hn
  have ho : Only (fun b => (Value.slice c.dA c.ds.length c.dc).ownBlock = some b) W W1 := Only.of_grown hg (fun j e => e)
  have hge : ∀ k, (Value.slice c.dA c.ds.length c.dc).ownBlock = some k → cb + 1 ≤ k := fun k e => (World.ownsRow.lt h.ds k e).1
  have c1 := (ho.block cb h.lt (fun e => by have := hge _ e; omega)).trans h.cc
  have hcell : W1.cell? ⟨cb, 1, none⟩ = some (.slice c.dA c.ds.length c.dc) := (cell_of_row W1 cb 1 _ _ _ c1).trans rfl
  have ho2 : Only (fun b => b = cb ∨ (Value.slice c.dA c.ds.length c.dc).ownBlock = some b) W (W1.setCell ⟨cb, 1, none⟩ (.slice A (c.ds ++ [z]).length cp)) := (ho.mono fun j _ e => .inr e).setCell (a := ⟨cb, 1, none⟩) (fun _ => .inl rfl) _
  have hk : ∀ {e : TypeId} {s n : Nat} {v : Value} {xs : List Value}, e ≠ 3 → W.ownsRow (cb + 1) e s v n xs → (W1.setCell ⟨cb, 1, none⟩ (.slice A (c.ds ++ [z]).length cp)).ownsRow (cb + 1) e s v n xs := fun hne hr => ho2.row hr (fun k e q => by
    rcases q with q | q
    · have := (World.ownsRow.lt hr k e).1
      omega
    · exact rows_apart hr h.ds hne e q)
  refine ⟨hcell, frozen_of_row W1 cb 1 _ _ c1, ⟨?_, ?_, ?_, ?_, ?_, ?_, h.ten⟩, ho2.below (Nat.le_of_lt h.lt) (fun j e => by
    rcases e with e | e
    · omega
    · have := hge _ e
      omega)⟩
  · rw [heap_setCell_same W1 cb 1 _ _ _ c1]
    simp [Cfg.cells]
  · exact ownsRow_setCell_other hown (fun e => by exact Nat.not_succ_le_self _ (World.ownsRow.lt hown _ e).1) _
  · exact hk (by decide) h.es
  · exact hk (by decide) h.us
  · exact hk (by decide) h.pl
  · intro p hp
    rw [show ({ c with dA := A, dc := cp, ds := c.ds ++ [z] } : Cfg).pl = c.pl from rfl, hpl] at hp
    cases hp
theorem PAt.put_es (h : PAt cb c W) {A : Option Addr} {n cp : Nat} {z : T3} (hown : OwnR cells3 3 W1 (cb + 1) 50 (.slice A n cp) (c.es ++ [z])) (hg : W.grownBy W1 (Value.slice c.eA c.es.length c.ec).ownBlock) :
    W1.cell? ⟨cb, 2, none⟩ = some (.slice c.eA c.es.length c.ec) ∧ W1.frozen? ⟨cb, 2, none⟩ = false ∧ PAt cb { c with eA := A, ec := cp, es := c.es ++ [z] } (W1.setCell ⟨cb, 2, none⟩ (.slice A n cp)) ∧ Below cb W (W1.setCell ⟨cb, 2, none⟩ (.slice A n cp)) := by
  have hn : n = (c.es ++ [z]).length := own_n hown
  subst hn
  have ho : Only (fun b => (Value.slice c.eA c.es.length c.ec).ownBlock = some b) W W1 := Only.of_grown hg (fun j e => e)
  have hge : ∀ k, (Value.slice c.eA c.es.length c.ec).ownBlock = some k → cb + 1 ≤ k := fun k e => (World.ownsRow.lt h.es k e).1
  have c1 := (ho.block cb h.lt (fun e => by have := hge _ e; omega)).trans h.cc
  have hcell : W1.cell? ⟨cb, 2, none⟩ = some (.slice c.eA c.es.length c.ec) := (cell_of_row W1 cb 2 _ _ _ c1).trans rfl
  have ho2 : Only (fun b => b = cb ∨ (Value.slice c.eA c.es.length c.ec).ownBlock = some b) W (W1.setCell ⟨cb, 2, none⟩ (.slice A (c.es ++ [z]).length cp)) := (ho.mono fun j _ e => .inr e).setCell (a := ⟨cb, 2, none⟩) (fun _ => .inl rfl) _
  have hk : ∀ {e : TypeId} {s n : Nat} {v : Value} {xs : List Value}, e ≠ 50 → W.ownsRow (cb + 1) e s v n xs → (W1.setCell ⟨cb, 2, none⟩ (.slice A (c.es ++ [z]).length cp)).ownsRow (cb + 1) e s v n xs := fun hne hr => ho2.row hr (fun k e q => by
    rcases q with q | q
    · have := (World.ownsRow.lt hr k e).1
      omega
    · exact rows_apart hr h.es hne e q)
  refine ⟨hcell, frozen_of_row W1 cb 2 _ _ c1, ⟨?_, ?_, ?_, ?_, ?_, ?_, h.ten⟩, ho2.below (Nat.le_of_lt h.lt) (fun j e => by
    rcases e with e | e
    · omega
    · have := hge _ e
      omega)⟩
  · rw [heap_setCell_same W1 cb 2 _ _ _ c1]
    simp [Cfg.cells]
  · exact hk (by decide) h.ds
  · exact ownsRow_setCell_other hown (fun e => by exact Nat.not_succ_le_self _ (World.ownsRow.lt hown _ e).1) _
  · exact hk (by decide) h.us
  · exact hk (by decide) h.pl
  · exact fun p hp => hk (by decide) (h.ks p hp)
theorem PAt.put_us (h : PAt cb c W) {A : Option Addr} {n cp : Nat} {z : T3} (hown : OwnR cells3 3 W1 (cb + 1) 53 (.slice A n cp) (c.us ++ [z])) (hg : W.grownBy W1 (Value.slice c.uA c.us.length c.uc).ownBlock) :
    W1.cell? ⟨cb, 3, none⟩ = some (.slice c.uA c.us.length c.uc) ∧ W1.frozen? ⟨cb, 3, none⟩ = false ∧ PAt cb { c with uA := A, uc := cp, us := c.us ++ [z] } (W1.setCell ⟨cb, 3, none⟩ (.slice A n cp)) ∧ Below cb W (W1.setCell ⟨cb, 3, none⟩ (.slice A n cp)) := by
  have hn : n = (c.us ++ [z]).length := own_n hown
  subst hn
  have ho : Only (fun b => (Value.slice c.uA c.us.length c.uc).ownBlock = some b) W W1 := Only.of_grown hg (fun j e => e)
  have hge : ∀ k, (Value.slice c.uA c.us.length c.uc).ownBlock = some k → cb + 1 ≤ k := fun k e => (World.ownsRow.lt h.us k e).1
  have c1 := (ho.block cb h.lt (fun e => by have := hge _ e; omega)).trans h.cc
  have hcell : W1.cell? ⟨cb, 3, none⟩ = some (.slice c.uA c.us.length c.uc) := (cell_of_row W1 cb 3 _ _ _ c1).trans rfl
  have ho2 : Only (fun b => b = cb ∨ (Value.slice c.uA c.us.length c.uc).ownBlock = some b) W (W1.setCell ⟨cb, 3, none⟩ (.slice A (c.us ++ [z]).length cp)) := (ho.mono fun j _ e => .inr e).setCell (a := ⟨cb, 3, none⟩) (fun _ => .inl rfl) _
  have hk : ∀ {e : TypeId} {s n : Nat} {v : Value} {xs : List Value}, e ≠ 53 → W.ownsRow (cb + 1) e s v n xs → (W1.setCell ⟨cb, 3, none⟩ (.slice A (c.us ++ [z]).length cp)).ownsRow (cb + 1) e s v n xs := fun hne hr => ho2.row hr (fun k e q => by
    rcases q with q | q
    · have := (World.ownsRow.lt hr k e).1
      omega
    · exact rows_apart hr h.us hne e q)
  refine ⟨hcell, frozen_of_row W1 cb 3 _ _ c1, ⟨?_, ?_, ?_, ?_, ?_, ?_, h.ten⟩, ho2.below (Nat.le_of_lt h.lt) (fun j e => by
    rcases e with e | e
    · omega
    · have := hge _ e
      omega)⟩
  · rw [heap_setCell_same W1 cb 3 _ _ _ c1]
    simp [Cfg.cells]
  · exact hk (by decide) h.ds
  · exact hk (by decide) h.es
  · exact ownsRow_setCell_other hown (fun e => by exact Nat.not_succ_le_self _ (World.ownsRow.lt hown _ e).1) _
  · exact hk (by decide) h.pl
  · exact fun p hp => hk (by decide) (h.ks p hp)
theorem PAt.put_pl (h : PAt cb c W) {A : Option Addr} {n cp : Nat} {z : Plan} (hkz : OwnI W (cb + 1) 3 (.slice z.kA z.kinds.length z.kc) z.kinds) (hown : OwnR planC 3 W1 (cb + 1) 43 (.slice A n cp) (c.pl ++ [z])) (hg : W.grownBy W1 (Value.slice c.pA c.pl.length c.pc).ownBlock) :
    W1.cell? ⟨cb, 4, none⟩ = some (.slice c.pA c.pl.length c.pc) ∧ W1.frozen? ⟨cb, 4, none⟩ = false ∧ PAt cb { c with pA := A, pc := cp, pl := c.pl ++ [z] } (W1.setCell ⟨cb, 4, none⟩ (.slice A n cp)) ∧ Below cb W (W1.setCell ⟨cb, 4, none⟩ (.slice A n cp)) := by
  have hn : n = (c.pl ++ [z]).length := own_n hown
  subst hn
  have ho : Only (fun b => (Value.slice c.pA c.pl.length c.pc).ownBlock = some b) W W1 := Only.of_grown hg (fun j e => e)
  have hge : ∀ k, (Value.slice c.pA c.pl.length c.pc).ownBlock = some k → cb + 1 ≤ k := fun k e => (World.ownsRow.lt h.pl k e).1
  have c1 := (ho.block cb h.lt (fun e => by have := hge _ e; omega)).trans h.cc
  have hcell : W1.cell? ⟨cb, 4, none⟩ = some (.slice c.pA c.pl.length c.pc) := (cell_of_row W1 cb 4 _ _ _ c1).trans rfl
  have ho2 : Only (fun b => b = cb ∨ (Value.slice c.pA c.pl.length c.pc).ownBlock = some b) W (W1.setCell ⟨cb, 4, none⟩ (.slice A (c.pl ++ [z]).length cp)) := (ho.mono fun j _ e => .inr e).setCell (a := ⟨cb, 4, none⟩) (fun _ => .inl rfl) _
  have hk : ∀ {e : TypeId} {s n : Nat} {v : Value} {xs : List Value}, e ≠ 43 → W.ownsRow (cb + 1) e s v n xs → (W1.setCell ⟨cb, 4, none⟩ (.slice A (c.pl ++ [z]).length cp)).ownsRow (cb + 1) e s v n xs := fun hne hr => ho2.row hr (fun k e q => by
    rcases q with q | q
    · have := (World.ownsRow.lt hr k e).1
      omega
    · exact rows_apart hr h.pl hne e q)
  refine ⟨hcell, frozen_of_row W1 cb 4 _ _ c1, ⟨?_, ?_, ?_, ?_, ?_, ?_, h.ten⟩, ho2.below (Nat.le_of_lt h.lt) (fun j e => by
    rcases e with e | e
    · omega
    · have := hge _ e
      omega)⟩
  · rw [heap_setCell_same W1 cb 4 _ _ _ c1]
    simp [Cfg.cells]
  · exact hk (by decide) h.ds
  · exact hk (by decide) h.es
  · exact hk (by decide) h.us
  · exact ownsRow_setCell_other hown (fun e => by exact Nat.not_succ_le_self _ (World.ownsRow.lt hown _ e).1) _
  · intro p hp
    rcases List.mem_append.1 hp with hp | hp
    · exact hk (by decide) (h.ks p hp)
    · rw [List.mem_singleton.1 hp]
      exact hk (by decide) hkz
end
end Go.Proofs.YtloacoalmfaceaaGreatDoor
