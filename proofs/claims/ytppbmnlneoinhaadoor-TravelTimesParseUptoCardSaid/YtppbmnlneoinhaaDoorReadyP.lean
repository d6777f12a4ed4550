/-
  What the library's contracts for reading numbers ask of a world besides (the two errors of strconv, the integer MaxLen); Atoi and ParseInt.
-/
import Derived.Test.YtppbmnlneoinhaaDoorReadyT
import Derived.Test.YtppbmnlneoinhaaDoorSplitS
namespace Go.Proofs.YtppbmnlneoinhaaDoor
open Go.RowKit

structure ReadyP (w : World) : Prop where
  base : Ready w
  syn : ∃ tp p, w.var? Tryd.prog "strconv.ErrSyntax" = some #[.iface tp p]
  rng : ∃ tp p, w.var? Tryd.prog "strconv.ErrRange" = some #[.iface tp p]
  most : ∃ m, w.cell? ⟨3, 0, none⟩ = some (.int .i64 m)
theorem lt_syn : 4 < Tryd.prog.globals.size := of_decide_eq_true (by kernel_rfl)
theorem lt_rng : 5 < Tryd.prog.globals.size := of_decide_eq_true (by kernel_rfl)
theorem lt_max : 3 < Tryd.prog.globals.size := of_decide_eq_true (by kernel_rfl)
theorem g_syn : Tryd.prog.globalNamed "strconv.ErrSyntax" = some 4 := by kernel_rfl
theorem g_rng : Tryd.prog.globalNamed "strconv.ErrRange" = some 5 := by kernel_rfl
theorem ReadyP.keep {w w' : World} {B : Nat} (h : ReadyP w) (hb : Below B w w') (hB : Tryd.prog.globals.size ≤ B) : ReadyP w' := by
  refine ⟨h.base.keep hb hB, ?_, ?_, ?_⟩
  · rw [var_kept g_syn hb (Nat.lt_of_lt_of_le lt_syn hB)]
    exact h.syn
  · rw [var_kept g_rng hb (Nat.lt_of_lt_of_le lt_rng hB)]
    exact h.rng
  · obtain ⟨m, hm⟩ := h.most
    exact ⟨m, (hb.cell (p := ⟨3, 0, none⟩) (Nat.lt_of_lt_of_le lt_max hB)).trans hm⟩
theorem ReadyP.below {w w' : World} (h : ReadyP w) (hb : Below w.heap.size w w') : ReadyP w' := h.keep hb h.base.room

/-- what Atoi returns. -/
def RetAtoi (l : List UInt8) (w : World) (e : Ending) (w' : World) : Prop :=
  ((∃ n, Lib.atoiAll l = .ok n ∧ e = .returned (.tuple #[.int .i64 n, .nilIface])) ∨ ((∀ n, Lib.atoiAll l ≠ .ok n) ∧ ∃ n N, e = .returned (.tuple #[.int .i64 n, .iface 124 (.pointer (some ⟨N, 0, none⟩))]))) ∧ Below w.heap.size w w'
theorem atoi_any (s : ByteArray) (hs : s.size ≤ 1099511627776) (w : World) (hr : ReadyP w) : Calls Tryd.prog 45 #[.string s] w (RetAtoi s.data.toList w) := by
  cases hp : Lib.atoiAll s.data.toList
  case ok n =>
    refine (Tryd.strconv_Atoi_ok s (by omega) n hp w).mono ?_
    rintro e w1 ⟨rfl, hb1⟩
    refine ⟨.inl ⟨n, hp, rfl⟩, ?_⟩
    rcases hb1 with rfl | ⟨t, rfl⟩
    · exact Below.refl _ _
    · exact Lib.bytesWorld_below _ _ _
  case range =>
    obtain ⟨tp, q, hv⟩ := hr.rng
    refine (Tryd.strconv_Atoi_range_var s (by omega) hp tp q w hv).mono ?_
    rintro e w1 ⟨N, rfl, _, _, hb⟩
    exact ⟨.inr ⟨(fun n h => by rw [hp] at h; cases h), _, N, rfl⟩, hb⟩
  obtain ⟨tp, q, hv⟩ := hr.syn
  refine (Any.strconv_Atoi_syntax_var Tryd.laysC172 s (by omega) hp tp q w hv).mono ?_
  rintro e w1 ⟨N, rfl, _, _, hb⟩
  exact ⟨.inr ⟨(fun n h => by rw [hp] at h; cases h), _, N, rfl⟩, hb⟩
/-- what ParseInt returns at the base 10 and 64 bits. -/
def RetInt (l : List UInt8) (w : World) (e : Ending) (w' : World) : Prop :=
  ((∃ n, Lib.parseIntB 64 l = .ok n ∧ e = .returned (.tuple #[.int .i64 n, .nilIface])) ∨ ((∀ n, Lib.parseIntB 64 l ≠ .ok n) ∧ ∃ n N, e = .returned (.tuple #[.int .i64 n, .iface 124 (.pointer (some ⟨N, 0, none⟩))]))) ∧ Below w.heap.size w w'
theorem parseInt_any (s : ByteArray) (hs : s.size ≤ 1099511627776) (w : World) (hr : ReadyP w) : Calls Tryd.prog 44 #[.string s, .int .i64 10, .int .i64 64] w (RetInt s.data.toList w) := by
  cases hp : Lib.parseIntB 64 s.data.toList
  case ok n =>
    refine (Tryd.strconv_ParseInt_10_at64_ok s (by omega) n hp w).mono ?_
    rintro e w1 ⟨rfl, hb1⟩
    refine ⟨.inl ⟨n, hp, rfl⟩, ?_⟩
    rcases hb1 with rfl | ⟨t, rfl⟩
    · exact Below.refl _ _
    · exact Lib.bytesWorld_below _ _ _
  case range =>
    obtain ⟨tp, q, hv⟩ := hr.rng
    refine (Tryd.strconv_ParseInt_10_at64_range_var s (by omega) hp tp q w hv).mono ?_
    rintro e w1 ⟨N, rfl, _, _, hb⟩
    exact ⟨.inr ⟨(fun n h => by rw [hp] at h; cases h), _, N, rfl⟩, hb⟩
  obtain ⟨tp, q, hv⟩ := hr.syn
  refine (Any.strconv_ParseInt_10_at64_syntax_var Tryd.laysC174 s (by omega) hp tp q w hv).mono ?_
  rintro e w1 ⟨N, rfl, _, _, hb⟩
  exact ⟨.inr ⟨(fun n h => by rw [hp] at h; cases h), _, N, rfl⟩, hb⟩
end Go.Proofs.YtppbmnlneoinhaaDoor
