/-
  What the library's contracts ask of a world (the table of powers of ten), and that it stays where nothing below the heap's end changes; texts.
-/
import Derived.Test.YtppbmnlneoinhaaDoorProg
import Derived.Test.YtppbmnlneoinhaaDoorShelf
import Derived.Test.YtppbmnlneoinhaaDoorMem
import Derived.WalkLawsBesides
import Derived.Lib.LaidTab
import Derived.Lib.AppendIntMem
namespace Go.Proofs.YtppbmnlneoinhaaDoor
open Go.RowKit

structure Ready (w : World) : Prop where
  tab : Lib.TabIs Tryd.prog w "internal/strconv.uint64pow10" .u64 Lib.pow10Tab
  room : Tryd.prog.globals.size ≤ w.heap.size
theorem lt_tab : 0 < Tryd.prog.globals.size := of_decide_eq_true (by kernel_rfl)
theorem g_tab : Tryd.prog.globalNamed "internal/strconv.uint64pow10" = some 0 := by kernel_rfl
theorem var_kept {w w' : World} {n : String} {g B : Nat} (hg : Tryd.prog.globalNamed n = some g) (hb : Below B w w') (hl : g < B) : w'.var? Tryd.prog n = w.var? Tryd.prog n := by
  unfold World.var?
  rw [hg]
  simp only [Option.bind_some]
  rw [hb.block g hl]
theorem Ready.below {w w' : World} (h : Ready w) (hb : Below w.heap.size w w') : Ready w' := by
  refine ⟨?_, Nat.le_trans h.room hb.size⟩
  unfold Lib.TabIs
  rw [var_kept g_tab hb (Nat.lt_of_lt_of_le lt_tab h.room)]
  exact h.tab
theorem Ready.keep {w w' : World} {B : Nat} (h : Ready w) (hb : Below B w w') (hB : Tryd.prog.globals.size ≤ B) : Ready w' := by
  refine ⟨?_, Nat.le_trans h.room hb.size⟩
  unfold Lib.TabIs
  rw [var_kept g_tab hb (Nat.lt_of_lt_of_le lt_tab hB)]
  exact h.tab

theorem below_then {a b c : World} (h1 : Below a.heap.size a b) (h2 : Below b.heap.size b c) : Below a.heap.size a c :=
  ⟨h2.os.trans h1.os, h2.tape.trans h1.tape, h2.output.trans h1.output, Nat.le_trans h1.size h2.size, fun k hk => (h2.block k (Nat.lt_of_lt_of_le hk h1.size)).trans (h1.block k hk)⟩
theorem ret_str {a b : ByteArray} (h : a = b) : Ending.returned (.string a) = Ending.returned (.string b) := by rw [h]

/-- a text as the model has it. -/
def bs (l : List UInt8) : ByteArray := ⟨l.toArray⟩
theorem bs_append (a b : List UInt8) : bs a ++ bs b = bs (a ++ b) := by
  apply ByteArray.ext
  simp [bs]
theorem bs_data (l : List UInt8) : (bs l).data.toList = l := by simp [bs]
theorem bs_size (l : List UInt8) : (bs l).size = l.length := by simp [bs, ByteArray.size]
theorem bs_inj {a b : List UInt8} (h : bs a = bs b) : a = b := by
  have := congrArg (fun x => x.data.toList) h
  simpa [bs_data] using this
theorem bs_of (s : ByteArray) : s = bs s.data.toList := by
  apply ByteArray.ext
  simp [bs]

theorem formatInt_any (n : Int) (h0 : -9223372036854775808 ≤ n) (h1 : n ≤ 9223372036854775807) (w : World) (h : Ready w) :
    Calls Tryd.prog 39 #[.int .i64 n, .int .i64 10] w fun e w' => e = .returned (.string (bs (Lib.itoa n))) ∧ Below w.heap.size w w' := by
  refine (Tryd.strconv_FormatInt_10 n h0 h1 w h.tab).mono ?_
  rintro e w' ⟨rfl, k, os, rfl⟩
  exact ⟨rfl, Lib.below_grow _ _ (Nat.le_refl _) _ _⟩
theorem itoa_any (n : Int) (h0 : -9223372036854775808 ≤ n) (h1 : n ≤ 9223372036854775807) (w : World) (h : Ready w) :
    Calls Tryd.prog 40 #[.int .i64 n] w fun e w' => e = .returned (.string (bs (Lib.itoa n))) ∧ Below w.heap.size w w' := by
  refine (Tryd.strconv_Itoa n h0 h1 w h.tab).mono ?_
  rintro e w' ⟨rfl, k, os, rfl⟩
  exact ⟨rfl, Lib.below_grow _ _ (Nat.le_refl _) _ _⟩
end Go.Proofs.YtppbmnlneoinhaaDoor
