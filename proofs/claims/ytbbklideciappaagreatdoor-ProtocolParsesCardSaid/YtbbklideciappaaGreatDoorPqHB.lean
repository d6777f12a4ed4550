/-
  strings.Builder's WriteString: what it leaves as it was.
-/
import Derived.Test.YtbbklideciappaaGreatDoorBuild
import Derived.Test.YtbbklideciappaaGreatDoorPqAA
namespace Go.Proofs.YtbbklideciappaaGreatDoor
open Go.RowKit

/-- the blocks that are neither the builder nor bytes are as before. -/
def KeepB (B : Nat) (w w' : World) : Prop := ∀ (j : Nat) (cs : Array Value) (t : TypeId) (fr : Nat × Nat), w.heap[j]? = some (.cells cs t fr) → j ≠ B → t ≠ 5 → w'.heap[j]? = w.heap[j]?
set_option maxHeartbeats 2000000 in
set_option maxRecDepth 100000 in
theorem copyCheck_only (B b : Nat) (bs : List Value) (w : World) (h : Lib.IsBuilder 61 5 B b bs w) :
    Calls Tryz.prog 58 #[.pointer (some ⟨b, 0, none⟩)] w fun e w' => e = .returned (.tuple #[]) ∧ (Lib.BuilderAt 61 5 B b (.pointer (some ⟨b, 0, none⟩)) bs w' ∧ Below B w w') ∧ ∀ j, j ≠ b → w'.heap[j]? = w.heap[j]? := by
  rcases h with h | h
  · refine (copyCheck_fresh b w h.cell0 h.shape h.frozen0).mono ?_
    rintro e w' ⟨rfl, rfl⟩
    exact ⟨rfl, ⟨h.used _, (Below.refl B w).setCell (p := ⟨b, 0, none⟩) h.1 _⟩, fun j hj => Below.heap_setCell w _ _ j hj⟩
  · refine (copyCheck_used b w h.cell0).mono ?_
    rintro e w' ⟨rfl, rfl⟩
    exact ⟨rfl, ⟨h, Below.refl B _⟩, fun j _ => rfl⟩
set_option maxHeartbeats 2000000 in
set_option maxRecDepth 100000 in
theorem writeString_only (B b : Nat) (bs : List Value) (s : ByteArray) (w : World) (h : Lib.IsBuilder 61 5 B b bs w) (hlen : bs.length + s.size ≤ 140737488355328) (hBw : B ≤ w.heap.size) :
    Calls Tryz.prog 35 #[.pointer (some ⟨b, 0, none⟩), .string s] w fun e w' => e = .returned (.tuple #[.int .i64 s.size, .nilIface]) ∧ (Lib.BuilderAt 61 5 B b (.pointer (some ⟨b, 0, none⟩)) (bs ++ Lib.strCells s) w' ∧ Below B w w') ∧ KeepB b w w' := by
  obtain ⟨i0, hi, hz0, hz1, hz2⟩ := info_parts byte_info
  have hck := copyCheck_only B b bs w h
  go_enter Tryz.func35, Tryz.ntmps35
  go_wp2_with fail
  refine hck.mono ?_
  rintro e w1 ⟨rfl, ⟨h1, hb1⟩, hk1⟩
  obtain ⟨hB, v, hbk, hown, hne⟩ := h1
  have c0 : w1.cell? ⟨b, 0, none⟩ = some (.pointer (some ⟨b, 0, none⟩)) := by rw [Lib.cell_of_heap hbk]; rfl
  have c1 : w1.cell? ⟨b, 1, none⟩ = some v := by rw [Lib.cell_of_heap hbk]; rfl
  go_wp2_with (at_builtin; refine Lib.wpList_append_own_string _ rfl _ _ 59 9 rfl B 5 i0 Tryz.underlying59 Tryz.underlying9 hi hz0 hz1 hz2 _ _ _ rfl hown s rfl ?c3 ?c4 ?c5 ?_)
  case c3 => unfold maxLen; omega
  case c4 => omega
  case c5 => have := hb1.size; omega
  intro v' w2 hown' hgrow _
  have hlt : b < w1.heap.size := by
    rcases Nat.lt_or_ge b w1.heap.size with h' | h'
    · exact h'
    · simp [Array.getElem?_eq_none h'] at hbk
  have hb2 : w2.heap[b]? = some (.cells #[.pointer (some ⟨b, 0, none⟩), v] 61 (0, 0)) := by
    rw [hgrow.block b hlt (fun e => hne e.symm)]
    exact hbk
  have hk2 : ∀ (j : Nat) (cs : Array Value) (t : TypeId) (fr : Nat × Nat), w1.heap[j]? = some (.cells cs t fr) → t ≠ 5 → w2.heap[j]? = w1.heap[j]? := by
    intro j cs t fr hj ht
    refine hgrow.block j (Array.getElem?_eq_some_iff.1 hj).1 (fun e => ?_)
    rcases hown.2 with ⟨hv, _⟩ | ⟨g, cap, cur, hv, _, hh, _⟩
    · rw [hv] at e
      cases e
    · rw [hv] at e
      have e1 : j = g := by simpa [Value.ownBlock] using e
      rw [← e1, hj] at hh
      injection hh with hh
      injection hh with _ hh _
      exact ht hh
  have d0 : w2.cell? ⟨b, 0, none⟩ = some (.pointer (some ⟨b, 0, none⟩)) := by rw [Lib.cell_of_heap hb2]; rfl
  have d1 : w2.cell? ⟨b, 1, none⟩ = some v := by rw [Lib.cell_of_heap hb2]; rfl
  have f1 : w2.frozen? ⟨b, 1, none⟩ = false := Lib.frozen_of_heap hb2 1
  have HK := Lib.hid (And.intro hk1 hk2)
  clear hk1 hk2
  obtain ⟨ao, n', cap, rfl⟩ : ∃ ao n' cap, v' = .slice ao n' cap := by
    rcases hown'.2 with ⟨hv, _⟩ | ⟨g, cap, cur, hv, _⟩
    · exact ⟨_, _, _, hv⟩
    · exact ⟨_, _, _, hv⟩
  go_wp2
  go_ret2
  refine ⟨rfl, ⟨?_, ?_⟩, ?_⟩
  · exact Lib.BuilderAt.put (T := 61) (e := 5) hB hb2 (bs' := bs ++ Lib.strCells s) (by simpa [Lib.strCells_length] using hown') (by decide)
  · exact (hb1.grown hgrow (by have := hb1.size; omega) (fun k hk => (hown.lt k hk).1)).setCell (p := ⟨b, 1, none⟩) hB _
  · intro j cs t fr hj hjb ht
    have h1 := HK.out.1 j hjb
    rw [Below.heap_setCell w2 _ _ j hjb, HK.out.2 j cs t fr (by rw [h1]; exact hj) ht, h1]
/-- a builder under way: it was made at w0 and holds L. -/
structure FB (L : List UInt8) (w0 w : World) : Prop where
  bld : Lib.IsBuilder 61 5 w0.heap.size w0.heap.size (Lib.byteCells L) w
  below : Below w0.heap.size w0 w
  lt : w0.heap.size < w.heap.size
theorem bld_below {T e : TypeId} {B b : Nat} {l : List Value} {w w' : World} (h : Lib.IsBuilder T e B b l w) (hb : Below w.heap.size w w') : Lib.IsBuilder T e B b l w' := by
  have key : ∀ p, Lib.BuilderAt T e B b p l w → Lib.BuilderAt T e B b p l w' := by
    rintro p ⟨h0, v, h1, h2, h3⟩
    have hl : b < w.heap.size := (Array.getElem?_eq_some_iff.1 h1).1
    exact ⟨h0, v, (hb.block b hl).trans h1, (Only.of_below (S := fun _ => False) hb).row h2 (fun _ _ q => q), h3⟩
  exact h.imp (key _) (key _)
theorem FB.next {L : List UInt8} {w0 w w' : World} (h : FB L w0 w) (hb : Below w.heap.size w w') : FB L w0 w' :=
  ⟨bld_below h.bld hb, h.below.trans (hb.mono h.below.size), Nat.lt_of_lt_of_le h.lt hb.size⟩
theorem FB.drew {L : List UInt8} {w0 w : World} (h : FB L w0 w) : FB L w0 w.drew := h.next (Below.refl _ _).drew
theorem FB.start (w0 : World) : FB [] w0 (w0.alloc (.cells #[.pointer none, .slice none 0 0] 61)) :=
  ⟨Lib.fresh_isBuilder _ _ w0, below_new _ _, lt_new _ _⟩
theorem strCells_bs (l : List UInt8) : Lib.strCells (bs l) = Lib.byteCells l := by
  unfold Lib.strCells Lib.byteCells
  simp [bs]
theorem byteCells_app (a b : List UInt8) : Lib.byteCells a ++ Lib.byteCells b = Lib.byteCells (a ++ b) := by
  unfold Lib.byteCells
  simp
theorem write_fb {L : List UInt8} {w0 w : World} (h : FB L w0 w) (s : ByteArray) (l : List UInt8) (hs : s = bs l) (hn : L.length + l.length ≤ 100000000) :
    Calls Tryz.prog 35 #[.pointer (some ⟨w0.heap.size, 0, none⟩), .string s] w fun e w' => e = .returned (.tuple #[.int .i64 s.size, .nilIface]) ∧ FB (L ++ l) w0 w' ∧ KeepB w0.heap.size w w' ∧ Below w0.heap.size w w' := by
  subst hs
  refine (writeString_only w0.heap.size w0.heap.size (Lib.byteCells L) (bs l) w h.bld (by rw [bs_size]; simp [Lib.byteCells]; omega) (Nat.le_of_lt h.lt)).mono ?_
  rintro e w' ⟨rfl, ⟨h1, h2⟩, h3⟩
  rw [strCells_bs, byteCells_app] at h1
  exact ⟨rfl, ⟨.inr h1, h.below.trans h2, Nat.lt_of_lt_of_le h.lt h2.size⟩, h3, h2⟩
theorem string_fb {L : List UInt8} {w0 w : World} (h : FB L w0 w) : Calls Tryz.prog 37 #[.pointer (some ⟨w0.heap.size, 0, none⟩)] w fun e w' => e = .returned (.string (bs L)) ∧ Below w0.heap.size w w' :=
  Tryz.Builder_String_any w0.heap.size w0.heap.size L w h.bld (Nat.le_of_lt h.lt)
end Go.Proofs.YtbbklideciappaaGreatDoor
