/-
  Changes of travel times: a record of three cells; which are valid; lists of them in memory.
-/
import Derived.Test.YtppbmnlneoinhaaDoorRecs
import Derived.Test.YtppbmnlneoinhaaDoorNew
import Derived.BigGuardPart
import Derived.Deep.QuietTactic
import Derived.BigQuiet
namespace Go.Proofs.YtppbmnlneoinhaaDoor
open Go.RowKit Go.Maps

structure ChgT where
  tick : Int
  edge : Int
  time : Int
deriving DecidableEq
def cellsC (c : ChgT) : List Value := [.int .i64 c.tick, .int .i64 c.edge, .int .i64 c.time]
theorem cellsC_len (c : ChgT) : (cellsC c).length = 3 := rfl
theorem cellsC_one (c : ChgT) : ∀ v ∈ cellsC c, v.oneCell' = true := by
  intro v hv
  simp only [cellsC, List.mem_cons, List.not_mem_nil, or_false] at hv
  rcases hv with rfl | rfl | rfl <;> rfl
abbrev ChgsAt := RecsAt cellsC
abbrev OwnC := OwnR cellsC 3
theorem chg_info : (Tryd.prog.info? 57).map (fun i => (i.zero, i.size, i.bytes)) = some (some (.agg #[.int .i64 0, .int .i64 0, .int .i64 0]), 3, 24) := by kernel_rfl
theorem chg_at {w : World} {B : Nat} {A : Option Addr} {cs : List ChgT} (h : ChgsAt w B A cs) {i : Nat} {c : ChgT} (hi : cs[i]? = some c) : ∃ b o, A = some ⟨b, o, none⟩ ∧ b < B ∧ w.cell? ⟨b, o + i * 3, none⟩ = some (.int .i64 c.tick) ∧ w.cell? ⟨b, o + i * 3 + 1, none⟩ = some (.int .i64 c.edge) ∧ w.cell? ⟨b, o + i * 3 + 2, none⟩ = some (.int .i64 c.time) := by
  obtain ⟨b, o, e, hb, hc⟩ := RecsAt.at cellsC_len h hi (by omega)
  exact ⟨b, o, e, hb, hc 0 _ rfl, hc 1 _ rfl, hc 2 _ rfl⟩
/-- a change that a table of m edges takes (but for the order of ticks). -/
def okC (m : Nat) (c : ChgT) : Prop := (0 ≤ c.tick ∧ c.tick ≤ 1099511627776 ∧ 0 ≤ c.edge ∧ c.edge < m) ∧ ((1 ≤ c.time ∧ c.time ≤ 1048576) ∨ c.time = 4611686018427387904)
instance (m : Nat) (c : ChgT) : Decidable (okC m c) := by unfold okC; infer_instance
end Go.Proofs.YtppbmnlneoinhaaDoor
