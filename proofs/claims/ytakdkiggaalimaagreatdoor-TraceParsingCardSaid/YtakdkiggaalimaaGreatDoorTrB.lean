/-
  What the library's contracts ask of a world in this seat (the table of powers of ten, the two errors of strconv, the integer MaxLen); FormatInt, ParseInt.
-/
import Derived.Test.YtakdkiggaalimaaGreatDoorProg
import Derived.Test.YtakdkiggaalimaaGreatDoorShelf
import Derived.Test.YtakdkiggaalimaaGreatDoorMem
import Derived.Test.YtakdkiggaalimaaGreatDoorTrG
import Derived.WalkLawsBesides
import Derived.Lib.LaidTab
import Derived.Lib.AppendIntMem
namespace Go.Proofs.YtakdkiggaalimaaGreatDoor
open Go.RowKit

structure Ready (w : World) : Prop where
  tab : Lib.TabIs Tryz.prog w "internal/strconv.uint64pow10" .u64 Lib.pow10Tab
  syn : ∃ tp p, w.var? Tryz.prog "strconv.ErrSyntax" = some #[.iface tp p]
  rng : ∃ tp p, w.var? Tryz.prog "strconv.ErrRange" = some #[.iface tp p]
  most : ∃ m, w.cell? ⟨0, 0, none⟩ = some (.int .i64 m)
  room : Tryz.prog.globals.size ≤ w.heap.size

theorem lt_tab : 5 < Tryz.prog.globals.size := of_decide_eq_true (by kernel_rfl)
theorem lt_syn : 3 < Tryz.prog.globals.size := of_decide_eq_true (by kernel_rfl)
theorem lt_rng : 4 < Tryz.prog.globals.size := of_decide_eq_true (by kernel_rfl)
theorem lt_max : 0 < Tryz.prog.globals.size := of_decide_eq_true (by kernel_rfl)
theorem g_tab : Tryz.prog.globalNamed "internal/strconv.uint64pow10" = some 5 := by kernel_rfl
theorem g_syn : Tryz.prog.globalNamed "strconv.ErrSyntax" = some 3 := by kernel_rfl
theorem g_rng : Tryz.prog.globalNamed "strconv.ErrRange" = some 4 := by kernel_rfl

theorem var_below {w w' : World} {n : String} {g : Nat} (hg : Tryz.prog.globalNamed n = some g) (hb : Below w.heap.size w w') (hl : g < w.heap.size) : w'.var? Tryz.prog n = w.var? Tryz.prog n := by
  unfold World.var?
  rw [hg]
  simp only [Option.bind_some]
  rw [hb.block g hl]

theorem var_kept {w w' : World} {n : String} {g B : Nat} (hg : Tryz.prog.globalNamed n = some g) (hb : Below B w w') (hl : g < B) : w'.var? Tryz.prog n = w.var? Tryz.prog n := by
  unfold World.var?
  rw [hg]
  simp only [Option.bind_some]
  rw [hb.block g hl]

theorem Ready.below {w w' : World} (h : Ready w) (hb : Below w.heap.size w w') : Ready w' := by
  refine ⟨?_, ?_, ?_, ?_, ?_⟩
  · unfold Lib.TabIs
    rw [var_below g_tab hb (Nat.lt_of_lt_of_le lt_tab h.room)]
    exact h.tab
  · rw [var_below g_syn hb (Nat.lt_of_lt_of_le lt_syn h.room)]
    exact h.syn
  · rw [var_below g_rng hb (Nat.lt_of_lt_of_le lt_rng h.room)]
    exact h.rng
  · obtain ⟨m, hm⟩ := h.most
    exact ⟨m, (hb.cell (p := ⟨0, 0, none⟩) (Nat.lt_of_lt_of_le lt_max h.room)).trans hm⟩
  · exact Nat.le_trans h.room hb.size

/-- a text as the model has it. -/
def bs (l : List UInt8) : ByteArray := ⟨l.toArray⟩
theorem bs_append (a b : List UInt8) : bs a ++ bs b = bs (a ++ b) := by
  apply ByteArray.ext
  simp [bs]
theorem bs_data (l : List UInt8) : (bs l).data.toList = l := by simp [bs]
theorem bs_size (l : List UInt8) : (bs l).size = l.length := by simp [bs, ByteArray.size]
theorem bs_inj {a b : List UInt8} (h : bs a = bs b) : a = b := by
  have := congrArg (fun x => x.data.toList) h
  simpa [bs_data] using this
theorem bs_of (s : ByteArray) : s = bs s.data.toList := by
  apply ByteArray.ext
  simp [bs]

theorem below_then {a b c : World} (h1 : Below a.heap.size a b) (h2 : Below b.heap.size b c) : Below a.heap.size a c :=
  ⟨h2.os.trans h1.os, h2.tape.trans h1.tape, h2.output.trans h1.output, Nat.le_trans h1.size h2.size, fun k hk => (h2.block k (Nat.lt_of_lt_of_le hk h1.size)).trans (h1.block k hk)⟩
theorem ret_str {a b : ByteArray} (h : a = b) : Ending.returned (.string a) = Ending.returned (.string b) := by rw [h]

theorem fmt_any (n : Int) (h : Is64 n) (w : World) (hr : Ready w) :
    Calls Tryz.prog 83 #[.int .i64 n, .int .i64 10] w fun e w' => e = .returned (.string (bs (Lib.itoa n))) ∧ Below w.heap.size w w' := by
  refine (Tryz.strconv_FormatInt_10 n h.1 h.2 w hr.tab).mono ?_
  rintro e w' ⟨rfl, k, os, rfl⟩
  exact ⟨rfl, Lib.below_grow _ _ (Nat.le_refl _) _ _⟩
/-- what ParseInt returns at the base 10 and 64 bits. -/
def RetInt (l : List UInt8) (w : World) (e : Ending) (w' : World) : Prop :=
  ((∃ n, Lib.parseIntB 64 l = .ok n ∧ e = .returned (.tuple #[.int .i64 n, .nilIface])) ∨ ((∀ n, Lib.parseIntB 64 l ≠ .ok n) ∧ ∃ n N, e = .returned (.tuple #[.int .i64 n, .iface 140 (.pointer (some ⟨N, 0, none⟩))]))) ∧ Below w.heap.size w w'
theorem parseInt_any (s : ByteArray) (hs : s.size ≤ 1099511627776) (w : World) (hr : Ready w) : Calls Tryz.prog 82 #[.string s, .int .i64 10, .int .i64 64] w (RetInt s.data.toList w) := by
  cases hp : Lib.parseIntB 64 s.data.toList
  case ok n =>
    refine (Tryz.strconv_ParseInt_10_at64_ok s (by omega) n hp w).mono ?_
    rintro e w1 ⟨rfl, hb1⟩
    refine ⟨.inl ⟨n, hp, rfl⟩, ?_⟩
    rcases hb1 with rfl | ⟨t, rfl⟩
    · exact Below.refl _ _
    · exact Lib.bytesWorld_below _ _ _
  case range =>
    obtain ⟨tp, q, hv⟩ := hr.rng
    refine (Tryz.strconv_ParseInt_10_at64_range_var s (by omega) hp tp q w hv).mono ?_
    rintro e w1 ⟨N, rfl, _, _, hb⟩
    exact ⟨.inr ⟨(fun n h => by rw [hp] at h; cases h), _, N, rfl⟩, hb⟩
  obtain ⟨tp, q, hv⟩ := hr.syn
  refine (Any.strconv_ParseInt_10_at64_syntax_var Tryz.laysC174 s (by omega) hp tp q w hv).mono ?_
  rintro e w1 ⟨N, rfl, _, _, hb⟩
  exact ⟨.inr ⟨(fun n h => by rw [hp] at h; cases h), _, N, rfl⟩, hb⟩
theorem Ready.kept {w w' : World} (h : Ready w) {B : Nat} (hb : Below B w w') (hB : Tryz.prog.globals.size ≤ B) : Ready w' := by
  refine ⟨?_, ?_, ?_, ?_, ?_⟩
  · unfold Lib.TabIs
    rw [var_kept g_tab hb (Nat.lt_of_lt_of_le lt_tab hB)]
    exact h.tab
  · rw [var_kept g_syn hb (Nat.lt_of_lt_of_le lt_syn hB)]
    exact h.syn
  · rw [var_kept g_rng hb (Nat.lt_of_lt_of_le lt_rng hB)]
    exact h.rng
  · obtain ⟨m, hm⟩ := h.most
    exact ⟨m, (hb.cell (p := ⟨0, 0, none⟩) (Nat.lt_of_lt_of_le lt_max hB)).trans hm⟩
  · exact Nat.le_trans h.room hb.size
end Go.Proofs.YtakdkiggaalimaaGreatDoor
