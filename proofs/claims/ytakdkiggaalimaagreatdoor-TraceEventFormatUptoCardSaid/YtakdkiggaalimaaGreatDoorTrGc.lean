/-
  samaritanref51: what guess returns, and small facts (printed by gentrxm.py).
-/
import Derived.Test.YtakdkiggaalimaaGreatDoorTrXh
import Derived.Test.YtakdkiggaalimaaGreatDoorTrXd
import Derived.Test.YtakdkiggaalimaaGreatDoorTrPc
import Derived.OrdersHeld
import Derived.Deep.RegionHeld3
namespace Go.Proofs.YtakdkiggaalimaaGreatDoor
open Go.RowKit Go.Maps

theorem Blk.next {X Y : World} {b : Nat} {T : TypeId} {cs : List Value} (h : Blk X b T cs) (hb : Below X.heap.size X Y) : Blk Y b T cs := (hb.block b h.lt).trans h
theorem kindR_yes {nm : Int → Wd} {x : Wd} {m : Nat} (h : nm ((m : Int) + 1) = x) : kindR nm x (m + 1) = (m : Int) + 1 := by
  rw [kindR, if_pos h]
theorem kindR_no {nm : Int → Wd} {x : Wd} {m : Nat} (h : ¬ nm ((m : Int) + 1) = x) : kindR nm x (m + 1) = kindR nm x m := by
  rw [kindR, if_neg h]
theorem guess_kind {ws : List Wd} {x : Wd} {r : List Wd} (h : ws = x :: r) {k : Int} (hk : kindR actN x 19 = k) : guessA ws = guessK k ws := by
  rw [← hk, h]
  rfl
theorem bs_lists {a b : Wd} : (bs a).toList = (bs b).toList ↔ a = b := by
  rw [ByteArray.toList_eq, ByteArray.toList_eq, bs_data, bs_data]
theorem below_setR {B : Nat} {w X : World} (h : Below B w X) {g : Nat} (hg : B ≤ g) (cs : Array Value) : Below B w (X.setRow g cs) :=
  ⟨h.os, h.tape, h.output, by simpa using h.size, fun k hk => (setRow_other X g k cs (by omega)).trans (h.block k hk)⟩
/-- what guess returns. -/
def RetG (ws : List Wd) (w : World) (e : Ending) (w' : World) : Prop := ∃ a : ActM, e = .returned (actV a) ∧ a.con = guessA ws ∧ ActO w' w.heap.size a ∧ Below w.heap.size w w'
end Go.Proofs.YtakdkiggaalimaaGreatDoor
