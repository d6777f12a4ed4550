/-
  strings.Builder's methods where the builder lies at the beginning of a block of type T (a builder, or trace.writer): what they leave as it was.
-/
import Derived.Test.YtakdkiggaalimaaGreatDoorTrB
import Derived.Test.YtakdkiggaalimaaGreatDoorMemB
import Derived.Test.YtakdkiggaalimaaGreatDoorOnly
import Derived.WalkLawsBesides
import Derived.WalkSpells
import Derived.Shelf.Strings.Builder1
namespace Go.Proofs.YtakdkiggaalimaaGreatDoor
open Go.RowKit

theorem byte_info : (Tryz.prog.info? 5).map (fun i => (i.zero, i.size, i.bytes)) = some (some (.int .u8 0), 1, 1) := by kernel_rfl
theorem byte_cells : Tryz.prog.cellsOf 5 = 1 := by kernel_rfl
theorem bld_size : (Tryz.prog.info? 70).map (·.size) = some 2 := by kernel_rfl
/-- a type whose first two cells are a builder. -/
def BldT (T : TypeId) : Prop := liesAt Tryz.prog Tryz.prog.depth T (2 / Tryz.prog.cellsOf T) 0 70 1 = true ∧ T ≠ 5
theorem bldT_bld : BldT 70 := ⟨by kernel_rfl, by decide⟩
theorem bldT_writer : BldT 72 := ⟨by kernel_rfl, by decide⟩
/-- the blocks that are neither the builder nor bytes are as before. -/
def KeepB (B : Nat) (w w' : World) : Prop := ∀ (j : Nat) (cs : Array Value) (t : TypeId) (fr : Nat × Nat), w.heap[j]? = some (.cells cs t fr) → j ≠ B → t ≠ 5 → w'.heap[j]? = w.heap[j]?
theorem KeepB.refl {B : Nat} {w : World} : KeepB B w w := fun _ _ _ _ _ _ _ => rfl
theorem KeepB.trans {B : Nat} {a b c : World} (h : KeepB B a b) (k : KeepB B b c) : KeepB B a c := fun j cs t fr hj hb ht => by
  have h1 := h j cs t fr hj hb ht
  exact (k j cs t fr (h1.trans hj) hb ht).trans h1
theorem KeepB.of_below {B : Nat} {a b : World} (h : Below a.heap.size a b) : KeepB B a b := fun j _ _ _ hj _ _ => h.block j (Array.getElem?_eq_some_iff.1 hj).1
set_option maxHeartbeats 1000000 in
set_option maxRecDepth 100000 in
theorem copyCheck_used (b : Nat) (w : World) (h0 : w.cell? ⟨b, 0, none⟩ = some (.pointer (some ⟨b, 0, none⟩))) :
    Calls Tryz.prog 78 #[.pointer (some ⟨b, 0, none⟩)] w fun e w' => e = .returned (.tuple #[]) ∧ w' = w := by
  obtain ⟨j, hj, _⟩ := Option.map_eq_some_iff.1 bld_size
  go_enter Tryz.func78, Tryz.ntmps78
  go_wp2
  rw [Lib.run_neq_ptr_same w _ Tryz.underlying68 hj]
  go_wp2
  go_end0
  exact ⟨rfl, rfl⟩
set_option maxHeartbeats 1000000 in
set_option maxRecDepth 100000 in
theorem copyCheck_fresh {T : TypeId} (hT : BldT T) (b : Nat) (w : World) (h0 : w.cell? ⟨b, 0, none⟩ = some (.pointer none)) (hsh : w.shape? b = some (T, 2)) (hfz : w.frozen? ⟨b, 0, none⟩ = false) :
    Calls Tryz.prog 78 #[.pointer (some ⟨b, 0, none⟩)] w fun e w' => e = .returned (.tuple #[]) ∧ w' = w.setCell ⟨b, 0, none⟩ (.pointer (some ⟨b, 0, none⟩)) := by
  obtain ⟨j, hj, hjs⟩ := Option.map_eq_some_iff.1 bld_size
  go_enter Tryz.func78, Tryz.ntmps78
  go_wp2
  rw [Lib.run_to_unsafe w ⟨b, 0, none⟩ Tryz.underlying68 Tryz.underlying129 hj (by rw [hjs]; decide) hsh (Nat.zero_lt_succ 1)]
  simp only [Result.andThen]
  rw [Oper.upon_value]
  go_wp2
  rw [run_callFunc_extern Tryz.func90 (by kernel_rfl) (by kernel_rfl) (by kernel_rfl) (e := Extern.AbiNoEscape.same) (by kernel_rfl)]
  rw [Lib.run_noEscape]
  simp only [Result.andThen]
  rw [Oper.upon_value]
  go_wp2
  rw [Lib.run_from_unsafe w ⟨b, 0, none⟩ Tryz.underlying129 Tryz.underlying68 hj hsh hT.1]
  simp only [Result.andThen]
  rw [Oper.upon_value]
  go_wp2
  go_end0
  exact ⟨rfl, rfl⟩
theorem copyCheck_only {T : TypeId} (hT : BldT T) (B b : Nat) (bs : List Value) (w : World) (h : Lib.IsBuilder T 5 B b bs w) :
    Calls Tryz.prog 78 #[.pointer (some ⟨b, 0, none⟩)] w fun e w' => e = .returned (.tuple #[]) ∧ (Lib.BuilderAt T 5 B b (.pointer (some ⟨b, 0, none⟩)) bs w' ∧ Below B w w') ∧ ∀ j, j ≠ b → w'.heap[j]? = w.heap[j]? := by
  rcases h with h | h
  · refine (copyCheck_fresh hT b w h.cell0 h.shape h.frozen0).mono ?_
    rintro e w' ⟨rfl, rfl⟩
    exact ⟨rfl, ⟨h.used _, (Below.refl B w).setCell (p := ⟨b, 0, none⟩) h.1 _⟩, fun j hj => Below.heap_setCell w _ _ j hj⟩
  · refine (copyCheck_used b w h.cell0).mono ?_
    rintro e w' ⟨rfl, rfl⟩
    exact ⟨rfl, ⟨h, Below.refl B _⟩, fun j _ => rfl⟩
theorem grow_keep {w1 w2 : World} {v : Value} {B : Nat} {n : Nat} {bs : List Value} (hgrow : w1.grownBy w2 v.ownBlock) (hown : w1.ownsRow B 5 1 v n bs) : ∀ (j : Nat) (cs : Array Value) (t : TypeId) (fr : Nat × Nat), w1.heap[j]? = some (.cells cs t fr) → t ≠ 5 → w2.heap[j]? = w1.heap[j]? := by
  intro j cs t fr hj ht
  refine hgrow.block j (Array.getElem?_eq_some_iff.1 hj).1 (fun e => ?_)
  rcases hown.2 with ⟨hv, _⟩ | ⟨g, cap, cur, hv, _, hh, _⟩
  · rw [hv] at e
    cases e
  · rw [hv] at e
    have e1 : j = g := by simpa [Value.ownBlock] using e
    rw [← e1, hj] at hh
    injection hh with hh
    injection hh with _ hh _
    exact ht hh
set_option maxHeartbeats 2000000 in
set_option maxRecDepth 100000 in
theorem writeString_only {T : TypeId} (hT : BldT T) (B b : Nat) (bs : List Value) (s : ByteArray) (w : World) (h : Lib.IsBuilder T 5 B b bs w) (hlen : bs.length + s.size ≤ 140737488355328) (hBw : B ≤ w.heap.size) :
    Calls Tryz.prog 52 #[.pointer (some ⟨b, 0, none⟩), .string s] w fun e w' => e = .returned (.tuple #[.int .i64 s.size, .nilIface]) ∧ (Lib.BuilderAt T 5 B b (.pointer (some ⟨b, 0, none⟩)) (bs ++ Lib.strCells s) w' ∧ Below B w w') ∧ KeepB b w w' := by
  obtain ⟨i0, hi, hz0, hz1, hz2⟩ := info_parts byte_info
  have hck := copyCheck_only hT B b bs w h
  have HT := Lib.hid hT
  clear hT
  go_enter Tryz.func52, Tryz.ntmps52
  go_wp2_with fail
  refine hck.mono ?_
  rintro e w1 ⟨rfl, ⟨h1, hb1⟩, hk1⟩
  obtain ⟨hB, v, hbk, hown, hne⟩ := h1
  have c0 : w1.cell? ⟨b, 0, none⟩ = some (.pointer (some ⟨b, 0, none⟩)) := by rw [Lib.cell_of_heap hbk]; rfl
  have c1 : w1.cell? ⟨b, 1, none⟩ = some v := by rw [Lib.cell_of_heap hbk]; rfl
  go_wp2_with (at_builtin; refine Lib.wpList_append_own_string _ rfl _ _ 23 9 rfl B 5 i0 Tryz.underlying23 Tryz.underlying9 hi hz0 hz1 hz2 _ _ _ rfl hown s rfl ?c3 ?c4 ?c5 ?_)
  case c3 => unfold maxLen; omega
  case c4 => omega
  case c5 => have := hb1.size; omega
  intro v' w2 hown' hgrow _
  have hlt : b < w1.heap.size := by
    rcases Nat.lt_or_ge b w1.heap.size with h' | h'
    · exact h'
    · simp [Array.getElem?_eq_none h'] at hbk
  have hb2 : w2.heap[b]? = some (.cells #[.pointer (some ⟨b, 0, none⟩), v] T (0, 0)) := by
    rw [hgrow.block b hlt (fun e => hne e.symm)]
    exact hbk
  have hk2 := grow_keep hgrow hown
  have d0 : w2.cell? ⟨b, 0, none⟩ = some (.pointer (some ⟨b, 0, none⟩)) := by rw [Lib.cell_of_heap hb2]; rfl
  have d1 : w2.cell? ⟨b, 1, none⟩ = some v := by rw [Lib.cell_of_heap hb2]; rfl
  have f1 : w2.frozen? ⟨b, 1, none⟩ = false := Lib.frozen_of_heap hb2 1
  have HK := Lib.hid (And.intro hk1 hk2)
  clear hk1 hk2
  obtain ⟨ao, n', cap, rfl⟩ : ∃ ao n' cap, v' = .slice ao n' cap := by
    rcases hown'.2 with ⟨hv, _⟩ | ⟨g, cap, cur, hv, _⟩
    · exact ⟨_, _, _, hv⟩
    · exact ⟨_, _, _, hv⟩
  go_wp2
  go_ret2
  refine ⟨rfl, ⟨?_, ?_⟩, ?_⟩
  · exact Lib.BuilderAt.put (T := T) (e := 5) hB hb2 (bs' := bs ++ Lib.strCells s) (by simpa [Lib.strCells_length] using hown') HT.out.2
  · exact (hb1.grown hgrow (by have := hb1.size; omega) (fun k hk => (hown.lt k hk).1)).setCell (p := ⟨b, 1, none⟩) hB _
  · intro j cs t fr hj hjb ht
    have h1 := HK.out.1 j hjb
    rw [Below.heap_setCell w2 _ _ j hjb, HK.out.2 j cs t fr (by rw [h1]; exact hj) ht, h1]
set_option maxHeartbeats 2000000 in
set_option maxRecDepth 100000 in
theorem writeByte_only {T : TypeId} (hT : BldT T) (B b : Nat) (bs : List Value) (c : Int) (w : World) (h : Lib.IsBuilder T 5 B b bs w) (hlen : bs.length + 1 ≤ 140737488355328) (hBw : B ≤ w.heap.size) :
    Calls Tryz.prog 53 #[.pointer (some ⟨b, 0, none⟩), .int .u8 c] w fun e w' => e = .returned .nilIface ∧ (Lib.BuilderAt T 5 B b (.pointer (some ⟨b, 0, none⟩)) (bs ++ [.int .u8 c]) w' ∧ Below B w w') ∧ KeepB b w w' := by
  obtain ⟨i0, hi, hz0, hz1, hz2⟩ := info_parts byte_info
  have hck := copyCheck_only hT B b bs w h
  have HT := Lib.hid hT
  clear hT
  go_enter Tryz.func53, Tryz.ntmps53
  go_wp2_with fail
  refine hck.mono ?_
  rintro e w1 ⟨rfl, ⟨h1, hb1⟩, hk1⟩
  obtain ⟨hB, v, hbk, hown, hne⟩ := h1
  have c0 : w1.cell? ⟨b, 0, none⟩ = some (.pointer (some ⟨b, 0, none⟩)) := by rw [Lib.cell_of_heap hbk]; rfl
  have c1 : w1.cell? ⟨b, 1, none⟩ = some v := by rw [Lib.cell_of_heap hbk]; rfl
  go_wp2_with (at_builtin; refine wpList_append_own _ rfl _ _ 23 rfl B 5 i0 (.int .u8 0) 1 1 Tryz.underlying23 hi hz0 hz1 hz2 rfl (by decide) _ _ _ rfl (hown.alloc _) ⟨w1.heap.size, 0, none⟩ 1 1 [.int .u8 c] rfl rfl ?c1 ?c2 ?c3 ?c4 ?c5 ?_)
  case c1 =>
    intro j u hj
    match j, hj with
    | 0, hj => simp at hj; subst hj; simp [Addr.add]
  case c2 => intro u hu; simp at hu; subst hu; rfl
  case c3 => unfold maxLen; omega
  case c4 => omega
  case c5 => have := hb1.size; simp; omega
  intro v' w2 hown' hgrow _
  have hlt : b < w1.heap.size := by
    rcases Nat.lt_or_ge b w1.heap.size with h' | h'
    · exact h'
    · simp [Array.getElem?_eq_none h'] at hbk
  have hb2 : w2.heap[b]? = some (.cells #[.pointer (some ⟨b, 0, none⟩), v] T (0, 0)) := by
    rw [hgrow.block b (by simp; omega) (fun e => hne e.symm), Lib.alloc_old w1 _ b hlt]
    exact hbk
  have hk2 := grow_keep hgrow (hown.alloc _)
  have d0 : w2.cell? ⟨b, 0, none⟩ = some (.pointer (some ⟨b, 0, none⟩)) := by rw [Lib.cell_of_heap hb2]; rfl
  have d1 : w2.cell? ⟨b, 1, none⟩ = some v := by rw [Lib.cell_of_heap hb2]; rfl
  have f1 : w2.frozen? ⟨b, 1, none⟩ = false := Lib.frozen_of_heap hb2 1
  have HK := Lib.hid (And.intro hk1 hk2)
  clear hk1 hk2
  obtain ⟨g, cap, rfl⟩ : ∃ g cap, v' = .slice (some ⟨g, 0, none⟩) (bs.length + 1) cap := by
    rcases hown'.2 with ⟨_, h0⟩ | ⟨g, cap, cur, hv, _⟩
    · omega
    · exact ⟨g, cap, hv⟩
  go_wp2
  go_ret
  refine ⟨rfl, ⟨?_, ?_⟩, ?_⟩
  · exact Lib.BuilderAt.put (T := T) (e := 5) hB hb2 (bs' := bs ++ [.int .u8 c]) (by simpa using hown') HT.out.2
  · exact ((hb1.alloc (by have := hb1.size; omega) _).grown hgrow (by have := hb1.size; simp; omega) (fun k hk => (hown.lt k hk).1)).setCell (p := ⟨b, 1, none⟩) hB _
  · intro j cs t fr hj hjb ht
    have h1 := HK.out.1 j hjb
    have hj1 : w1.heap[j]? = some (.cells cs t fr) := by rw [h1]; exact hj
    have hjl := (Array.getElem?_eq_some_iff.1 hj1).1
    have hj2 := Lib.alloc_old w1 (.cells #[.int .u8 c] 5) j hjl
    rw [Below.heap_setCell w2 _ _ j hjb, HK.out.2 j cs t fr (hj2.trans hj1) ht, hj2, h1]
set_option maxHeartbeats 1000000 in
set_option maxRecDepth 100000 in
theorem len_only {T : TypeId} (B b : Nat) (bs : List Value) (w : World) (h : Lib.IsBuilder T 5 B b bs w) :
    Calls Tryz.prog 68 #[.pointer (some ⟨b, 0, none⟩)] w fun e w' => e = .returned (.int .i64 bs.length) ∧ w' = w := by
  obtain ⟨p, hB, v, hbk, hown, hne⟩ : ∃ p, Lib.BuilderAt T 5 B b p bs w := by
    rcases h with h | h
    · exact ⟨_, h⟩
    · exact ⟨_, h⟩
  obtain ⟨ao, cap, rfl⟩ : ∃ ao cap, v = .slice ao bs.length cap := by
    rcases hown.2 with ⟨hv, h0⟩ | ⟨g, cap, cur, hv, _⟩
    · exact ⟨none, 0, by rw [hv, h0]⟩
    · exact ⟨_, _, hv⟩
  have c1 : w.cell? ⟨b, 1, none⟩ = some (.slice ao bs.length cap) := by rw [Lib.cell_of_heap hbk]; rfl
  clear hown hne hbk
  go_enter Tryz.func68, Tryz.ntmps68
  go_wp2
  go_ret
  exact ⟨rfl, rfl⟩
set_option maxHeartbeats 1000000 in
set_option maxRecDepth 100000 in
theorem string_only {T : TypeId} (B b : Nat) (l : List UInt8) (w : World) (h : Lib.IsBuilder T 5 B b (Lib.byteCells l) w) (h0 : l ≠ []) :
    Calls Tryz.prog 54 #[.pointer (some ⟨b, 0, none⟩)] w fun e w' => e = .returned (.string (bs l)) ∧ Below B w w' := by
  obtain ⟨p, hB, v, hbk, hown, hne⟩ : ∃ p, Lib.BuilderAt T 5 B b p (Lib.byteCells l) w := by
    rcases h with h | h
    · exact ⟨_, h⟩
    · exact ⟨_, h⟩
  have hl0 : l.length ≠ 0 := by simpa using h0
  rw [Lib.byteCells_length] at hown
  obtain ⟨g, cap, cur, rfl, hbg, hg, hnc, hcm, hcs, htake⟩ : ∃ g cap cur, v = .slice (some ⟨g, 0, none⟩) l.length cap ∧ B ≤ g ∧ w.heap[g]? = some (.cells cur 5 (0, 0)) ∧ l.length ≤ cap ∧ cap ≤ maxLen ∧ cur.size = cap * 1 ∧ cur.toList.take (l.length * 1) = Lib.byteCells l := by
    rcases hown.2 with ⟨_, hz⟩ | ⟨g, cap, cur, hv, r⟩
    · exact absurd hz hl0
    · exact ⟨g, cap, cur, hv, r⟩
  have c1 : w.drew.cell? ⟨b, 1, none⟩ = some (.slice (some ⟨g, 0, none⟩) l.length cap) := by
    have : w.drew.heap[b]? = some (.cells #[p, .slice (some ⟨g, 0, none⟩) l.length cap] T (0, 0)) := hbk
    rw [Lib.cell_of_heap this]; rfl
  have hSD : (Builtin.unsafeSliceData_ #[23] 117 #[.slice (some ⟨g, 0, none⟩) l.length cap]).run Tryz.prog w.drew = .ok (.pointer (some ⟨g, 0, none⟩)) w.drew :=
    Lib.run_unsafeSliceData_row _ _ _ _ _ _ (by omega)
  have hUS : (Builtin.unsafeString_ #[117, 3] 9 #[.pointer (some ⟨g, 0, none⟩), .int .i64 l.length]).run Tryz.prog w.drew = .ok (.string ⟨l.toArray⟩) (w.drew.freeze ⟨g, 0, none⟩ l.length) := by
    refine Lib.run_unsafeString_row w.drew 117 3 9 5 Tryz.underlying117 byte_cells g cur.size (by have hg' : w.drew.heap[g]? = some (.cells cur 5 (0, 0)) := hg; simp [World.shape?, hg']) l h0 (by omega) (by unfold maxLen at hcm; omega) ?_
    intro j x hx
    have := hown.cells (g := g) rfl j (.int .u8 x.toNat) (by simp [Lib.byteCells, hx])
    exact this
  clear hown hne hbk htake hcs hg
  have mixed : Tryz.prog.follows Departure.mixedOrders = true := by kernel_rfl
  go_enter Tryz.func54, Tryz.ntmps54
  go_wp2
  go_region_o
  all_goals (go_wp2; go_ret; exact ⟨rfl, Lib.below_freeze (Below.drew (Below.refl B w)) (p := ⟨g, 0, none⟩) hbg _⟩)
/-- a builder under way: it was made at w0 and holds L. -/
structure FB (T : TypeId) (L : List UInt8) (w0 w : World) : Prop where
  bld : Lib.IsBuilder T 5 w0.heap.size w0.heap.size (Lib.byteCells L) w
  below : Below w0.heap.size w0 w
  lt : w0.heap.size < w.heap.size
section
variable {T : TypeId} {L : List UInt8} {w0 w w' : World}
theorem bld_below {e : TypeId} {B b : Nat} {l : List Value} (h : Lib.IsBuilder T e B b l w) (hb : Below w.heap.size w w') : Lib.IsBuilder T e B b l w' := by
  have key : ∀ p, Lib.BuilderAt T e B b p l w → Lib.BuilderAt T e B b p l w' := by
    rintro p ⟨h0, v, h1, h2, h3⟩
    have hl : b < w.heap.size := (Array.getElem?_eq_some_iff.1 h1).1
    exact ⟨h0, v, (hb.block b hl).trans h1, (Only.of_below (S := fun _ => False) hb).row h2 (fun _ _ q => q), h3⟩
  exact h.imp (key _) (key _)
theorem FB.next (h : FB T L w0 w) (hb : Below w.heap.size w w') : FB T L w0 w' :=
  ⟨bld_below h.bld hb, h.below.trans (hb.mono h.below.size), Nat.lt_of_lt_of_le h.lt hb.size⟩
theorem FB.drew (h : FB T L w0 w) : FB T L w0 w.drew := h.next (Below.refl _ _).drew
theorem FB.start (T : TypeId) (w0 : World) : FB T [] w0 (w0.alloc (.cells #[.pointer none, .slice none 0 0] T)) :=
  ⟨Lib.fresh_isBuilder _ _ w0, (Below.refl _ _).alloc (Nat.le_refl _) _, by simp⟩
end
theorem strCells_bs (l : List UInt8) : Lib.strCells (bs l) = Lib.byteCells l := by
  unfold Lib.strCells Lib.byteCells
  simp [bs]
theorem byteCells_app (a b : List UInt8) : Lib.byteCells a ++ Lib.byteCells b = Lib.byteCells (a ++ b) := by
  unfold Lib.byteCells
  simp
theorem write_fb {T : TypeId} (hT : BldT T) {L : List UInt8} {w0 w : World} (h : FB T L w0 w) (l : List UInt8) (hn : L.length + l.length ≤ 100000000000) :
    Calls Tryz.prog 52 #[.pointer (some ⟨w0.heap.size, 0, none⟩), .string (bs l)] w fun e w' => e = .returned (.tuple #[.int .i64 (bs l).size, .nilIface]) ∧ FB T (L ++ l) w0 w' ∧ KeepB w0.heap.size w w' ∧ Below w0.heap.size w w' := by
  refine (writeString_only hT w0.heap.size w0.heap.size (Lib.byteCells L) (bs l) w h.bld (by rw [bs_size]; simp [Lib.byteCells]; omega) (Nat.le_of_lt h.lt)).mono ?_
  rintro e w' ⟨rfl, ⟨h1, h2⟩, h3⟩
  rw [strCells_bs, byteCells_app] at h1
  exact ⟨rfl, ⟨.inr h1, h.below.trans h2, Nat.lt_of_lt_of_le h.lt h2.size⟩, h3, h2⟩
theorem writeByte_fb {T : TypeId} (hT : BldT T) {L : List UInt8} {w0 w : World} (h : FB T L w0 w) (c : UInt8) {z : Int} (hz : z = c.toNat) (hn : L.length ≤ 100000000000) :
    Calls Tryz.prog 53 #[.pointer (some ⟨w0.heap.size, 0, none⟩), .int .u8 z] w fun e w' => e = .returned .nilIface ∧ FB T (L ++ [c]) w0 w' ∧ KeepB w0.heap.size w w' ∧ Below w0.heap.size w w' := by
  subst hz
  refine (writeByte_only hT w0.heap.size w0.heap.size (Lib.byteCells L) c.toNat w h.bld (by simp [Lib.byteCells]; omega) (Nat.le_of_lt h.lt)).mono ?_
  rintro e w' ⟨rfl, ⟨h1, h2⟩, h3⟩
  have e1 : Lib.byteCells L ++ [Value.int .u8 c.toNat] = Lib.byteCells (L ++ [c]) := by rw [← byteCells_app]; rfl
  rw [e1] at h1
  exact ⟨rfl, ⟨.inr h1, h.below.trans h2, Nat.lt_of_lt_of_le h.lt h2.size⟩, h3, h2⟩
theorem len_fb {T : TypeId} {L : List UInt8} {w0 w : World} (h : FB T L w0 w) : Calls Tryz.prog 68 #[.pointer (some ⟨w0.heap.size, 0, none⟩)] w fun e w' => e = .returned (.int .i64 L.length) ∧ w' = w := by
  have h1 := len_only w0.heap.size w0.heap.size (Lib.byteCells L) w h.bld
  rwa [Lib.byteCells_length] at h1
theorem string_fb {T : TypeId} {L : List UInt8} {w0 w : World} (h : FB T L w0 w) (h0 : L ≠ []) : Calls Tryz.prog 54 #[.pointer (some ⟨w0.heap.size, 0, none⟩)] w fun e w' => e = .returned (.string (bs L)) ∧ Below w0.heap.size w w' :=
  string_only w0.heap.size w0.heap.size L w h.bld h0
end Go.Proofs.YtakdkiggaalimaaGreatDoor
