/-
  What the library's contracts ask of a world (the table of powers of ten, the two errors of strconv, the integer MaxLen), and that it stays where nothing below the heap's end changes.
-/
import Derived.Test.YtloacoalmfaceaaGreatDoorProg
import Derived.Test.YtloacoalmfaceaaGreatDoorShelf
import Derived.Test.YtloacoalmfaceaaGreatDoorMem
import Derived.WalkLawsBesides
import Derived.Lib.LaidTab
import Derived.Lib.AppendIntMem
namespace Go.Proofs.YtloacoalmfaceaaGreatDoor
open Go.RowKit

structure Ready (w : World) : Prop where
  tab : Lib.TabIs Tryz.prog w "internal/strconv.uint64pow10" .u64 Lib.pow10Tab
  syn : ∃ tp p, w.var? Tryz.prog "strconv.ErrSyntax" = some #[.iface tp p]
  rng : ∃ tp p, w.var? Tryz.prog "strconv.ErrRange" = some #[.iface tp p]
  most : ∃ m, w.cell? ⟨2, 0, none⟩ = some (.int .i64 m)
  room : Tryz.prog.globals.size ≤ w.heap.size

theorem lt_tab : 1 < Tryz.prog.globals.size := of_decide_eq_true (by kernel_rfl)
theorem lt_syn : 7 < Tryz.prog.globals.size := of_decide_eq_true (by kernel_rfl)
theorem lt_rng : 8 < Tryz.prog.globals.size := of_decide_eq_true (by kernel_rfl)
theorem lt_max : 2 < Tryz.prog.globals.size := of_decide_eq_true (by kernel_rfl)
theorem g_tab : Tryz.prog.globalNamed "internal/strconv.uint64pow10" = some 1 := by kernel_rfl
theorem g_syn : Tryz.prog.globalNamed "strconv.ErrSyntax" = some 7 := by kernel_rfl
theorem g_rng : Tryz.prog.globalNamed "strconv.ErrRange" = some 8 := by kernel_rfl

theorem var_below {w w' : World} {n : String} {g : Nat} (hg : Tryz.prog.globalNamed n = some g) (hb : Below w.heap.size w w') (hl : g < w.heap.size) : w'.var? Tryz.prog n = w.var? Tryz.prog n := by
  unfold World.var?
  rw [hg]
  simp only [Option.bind_some]
  rw [hb.block g hl]

theorem var_kept {w w' : World} {n : String} {g B : Nat} (hg : Tryz.prog.globalNamed n = some g) (hb : Below B w w') (hl : g < B) : w'.var? Tryz.prog n = w.var? Tryz.prog n := by
  unfold World.var?
  rw [hg]
  simp only [Option.bind_some]
  rw [hb.block g hl]

theorem Ready.below {w w' : World} (h : Ready w) (hb : Below w.heap.size w w') : Ready w' := by
  refine ⟨?_, ?_, ?_, ?_, ?_⟩
  · unfold Lib.TabIs
    rw [var_below g_tab hb (Nat.lt_of_lt_of_le lt_tab h.room)]
    exact h.tab
  · rw [var_below g_syn hb (Nat.lt_of_lt_of_le lt_syn h.room)]
    exact h.syn
  · rw [var_below g_rng hb (Nat.lt_of_lt_of_le lt_rng h.room)]
    exact h.rng
  · obtain ⟨m, hm⟩ := h.most
    exact ⟨m, (hb.cell (p := ⟨2, 0, none⟩) (Nat.lt_of_lt_of_le lt_max h.room)).trans hm⟩
  · exact Nat.le_trans h.room hb.size

/-- a text as the model has it. -/
def bs (l : List UInt8) : ByteArray := ⟨l.toArray⟩
theorem bs_append (a b : List UInt8) : bs a ++ bs b = bs (a ++ b) := by
  apply ByteArray.ext
  simp [bs]
theorem bs_data (l : List UInt8) : (bs l).data.toList = l := by simp [bs]
theorem bs_size (l : List UInt8) : (bs l).size = l.length := by simp [bs, ByteArray.size]
theorem bs_inj {a b : List UInt8} (h : bs a = bs b) : a = b := by
  have := congrArg (fun x => x.data.toList) h
  simpa [bs_data] using this
theorem bs_of (s : ByteArray) : s = bs s.data.toList := by
  apply ByteArray.ext
  simp [bs]

theorem formatInt_any (n : Int) (h0 : -9223372036854775808 ≤ n) (h1 : n ≤ 9223372036854775807) (w : World) (h : Ready w) :
    Calls Tryz.prog 35 #[.int .i64 n, .int .i64 10] w fun e w' => e = .returned (.string (bs (Lib.itoa n))) ∧ Below w.heap.size w w' := by
  refine (Tryz.strconv_FormatInt_10 n h0 h1 w h.tab).mono ?_
  rintro e w' ⟨rfl, k, os, rfl⟩
  refine ⟨rfl, ?_⟩
  exact Lib.below_grow _ _ (Nat.le_refl _) _ _

end Go.Proofs.YtloacoalmfaceaaGreatDoor
