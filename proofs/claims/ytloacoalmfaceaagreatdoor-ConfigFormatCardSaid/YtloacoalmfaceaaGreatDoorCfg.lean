/-
  Configurations: how they lie in memory; what a valid one is (plain).
-/
import Derived.Test.YtloacoalmfaceaaGreatDoorPlans
import Derived.Test.YtloacoalmfaceaaGreatDoorRecs
namespace Go.Proofs.YtloacoalmfaceaaGreatDoor
open Go.RowKit

/-- three integers: an edge, a unit. -/
structure T3 where
  a : Int
  b : Int
  c : Int
def cells3 (t : T3) : List Value := [.int .i64 t.a, .int .i64 t.b, .int .i64 t.c]
theorem cells3_len (t : T3) : (cells3 t).length = 3 := rfl
theorem T3.ext' {t u : T3} (h : cells3 t = cells3 u) : t = u := by
  cases t; cases u
  simp [cells3] at h
  obtain ⟨rfl, rfl, rfl⟩ := h
  rfl
/-- a configuration, its slices with their places. -/
structure Cfg where
  cen : Int
  dA : Option Addr
  ds : List Int
  dc : Nat
  eA : Option Addr
  es : List T3
  ec : Nat
  uA : Option Addr
  us : List T3
  uc : Nat
  pA : Option Addr
  pl : List Plan
  pc : Nat
  ps : List Int
def Cfg.cells (c : Cfg) : List Value := [.int .i64 c.cen, .slice c.dA c.ds.length c.dc, .slice c.eA c.es.length c.ec, .slice c.uA c.us.length c.uc, .slice c.pA c.pl.length c.pc] ++ c.ps.map (Value.int .i64)
/-- what the configuration's slices hold. -/
structure CfgAt (w : World) (B : Nat) (c : Cfg) : Prop where
  ds : Sl w B c.dA (c.ds.map (Value.int .i64))
  es : RecsAt cells3 w B c.eA c.es
  us : RecsAt cells3 w B c.uA c.us
  pl : Plans w B c.pA c.pl
  ten : c.ps.length = 10
theorem CfgAt.below {w w' : World} {B : Nat} {c : Cfg} (h : CfgAt w B c) (hb : Below B w w') : CfgAt w' B c := ⟨h.ds.below hb, RecsAt.below h.es hb, RecsAt.below h.us hb, h.pl.below hb, h.ten⟩
theorem CfgAt.more {w : World} {B B' : Nat} {c : Cfg} (h : CfgAt w B c) (hB : B ≤ B') : CfgAt w B' c := ⟨h.ds.more hB, RecsAt.more h.es hB, RecsAt.more h.us hB, h.pl.more hB, h.ten⟩
/-- the configuration lies in block cb. -/
def CfgIn (w : World) (cb : Nat) (c : Cfg) : Prop := ∀ j u, c.cells[j]? = some u → w.cell? ⟨cb, j, none⟩ = some u
theorem CfgIn.below {w w' : World} {B cb : Nat} {c : Cfg} (h : CfgIn w cb c) (hb : Below B w w') (hl : cb < B) : CfgIn w' cb c := fun j u hj => (hb.cell (p := ⟨cb, j, none⟩) hl).trans (h j u hj)
theorem CfgIn.five {w : World} {cb : Nat} {c : Cfg} (h : CfgIn w cb c) : w.cell? ⟨cb, 0, none⟩ = some (.int .i64 c.cen) ∧ w.cell? ⟨cb, 1, none⟩ = some (.slice c.dA c.ds.length c.dc) ∧ w.cell? ⟨cb, 2, none⟩ = some (.slice c.eA c.es.length c.ec) ∧ w.cell? ⟨cb, 3, none⟩ = some (.slice c.uA c.us.length c.uc) ∧ w.cell? ⟨cb, 4, none⟩ = some (.slice c.pA c.pl.length c.pc) :=
  ⟨h 0 _ rfl, h 1 _ rfl, h 2 _ rfl, h 3 _ rfl, h 4 _ rfl⟩
theorem CfgIn.par {w : World} {cb : Nat} {c : Cfg} (h : CfgIn w cb c) {k : Nat} {z : Int} (hk : c.ps[k]? = some z) : w.cell? ⟨cb, 5 + k, none⟩ = some (.int .i64 z) := h (5 + k) _ (by
  unfold Cfg.cells
  rw [List.getElem?_append_right (by simp)]
  have e : 5 + k - [Value.int .i64 c.cen, .slice c.dA c.ds.length c.dc, .slice c.eA c.es.length c.ec, .slice c.uA c.us.length c.uc, .slice c.pA c.pl.length c.pc].length = k := by simp
  rw [e, List.getElem?_map, hk]
  rfl)

/-- i from 0 to n - 1. -/
def Idx (i n : Int) : Prop := 0 ≤ i ∧ i < n
def KindOk (k : Int) : Prop := 1 ≤ k ∧ k ≤ 4
def EdgeOk (n : Int) (e : T3) : Prop := Idx e.a n ∧ Idx e.b n ∧ ((1 ≤ e.c ∧ e.c ≤ 1048576) ∨ e.c = 4611686018427387904)
def UnitOk (cen n : Int) (u : T3) : Prop := KindOk u.a ∧ Idx u.b cen ∧ Idx u.c n
def CodeOk (s : ByteArray) : Prop := (1 ≤ s.size ∧ s.size ≤ 40) ∧ ∀ b ∈ s.data.toList, 33 ≤ b.toNat ∧ b.toNat ≤ 126
def PlanOk (p : Plan) : Prop := CodeOk p.code ∧ (1 ≤ p.urg ∧ p.urg ≤ 5) ∧ (1 ≤ p.kinds.length ∧ p.kinds.length ≤ 8) ∧ ∀ k ∈ p.kinds, KindOk k
def Twin (p q : Plan) : Prop := p.code = q.code ∧ p.urg = q.urg
/-- the first k plans are valid and no two of them twins. -/
def PlansTo (pl : List Plan) (k : Nat) : Prop := ∀ i p, i < k → pl[i]? = some p → PlanOk p ∧ ∀ j q, j < i → pl[j]? = some q → ¬ Twin q p
def PlansOk (pl : List Plan) : Prop := pl.length ≤ 64 ∧ PlansTo pl pl.length
def parLow (k : Nat) : Int := if k = 6 ∨ k = 7 ∨ k = 8 then 0 else 1
def parHigh (k : Nat) : Int := if k < 6 then 1048576 else if k < 8 then 1099511627776 else if k = 8 then 256 else 4096
def ParsTo (ps : List Int) (k : Nat) : Prop := ∀ i z, i < k → ps[i]? = some z → parLow i ≤ z ∧ z ≤ parHigh i
open Classical in
noncomputable def problem (c : Cfg) : Nat :=
  if ¬ (1 ≤ c.cen ∧ c.cen ≤ 9) then 1 else if ¬ (1 ≤ c.ds.length ∧ c.ds.length ≤ 4096) then 2 else if ¬ (∀ d ∈ c.ds, Idx d c.cen) then 3
  else if ¬ ((∀ e ∈ c.es, EdgeOk c.ds.length e) ∧ c.es.length ≤ 16384) then 4 else if ¬ ((∀ u ∈ c.us, UnitOk c.cen c.ds.length u) ∧ c.us.length ≤ 256) then 5
  else if ¬ PlansOk c.pl then 6 else if ¬ ParsTo c.ps 10 then 7 else 0
/-- the truth of a sentence as a Boolean. -/
noncomputable def tb (P : Prop) : Bool := @decide P (Classical.propDecidable P)
theorem tb_true {P : Prop} (h : P) : tb P = true := @decide_eq_true P (Classical.propDecidable P) h
theorem tb_false {P : Prop} (h : ¬ P) : tb P = false := @decide_eq_false P (Classical.propDecidable P) h
theorem tb_iff {P Q : Prop} (h : P ↔ Q) : tb P = tb Q := by rw [propext h]
theorem ret_tb {P : Prop} {b : Bool} (h : b = true ↔ P) : Ending.returned (.bool b) = .returned (.bool (tb P)) := by
  by_cases hp : P
  · rw [tb_true hp, h.2 hp]
  · rw [tb_false hp]
    cases b
    · rfl
    · exact absurd (h.1 rfl) hp
theorem ret_yes {P : Prop} (h : P) : Ending.returned (.bool true) = .returned (.bool (tb P)) := by rw [tb_true h]
theorem ret_no {P : Prop} (h : ¬ P) : Ending.returned (.bool false) = .returned (.bool (tb P)) := by rw [tb_false h]
theorem all_take_iff {α : Type} {P : α → Prop} {l : List α} {k : Nat} {x : α} (h : l[k]? = some x) : (∀ y ∈ l.take (k + 1), P y) ↔ (∀ y ∈ l.take k, P y) ∧ P x := by
  obtain ⟨h1, h2⟩ := List.getElem?_eq_some_iff.1 h
  rw [List.take_succ_eq_append_getElem h1, h2]
  simp only [List.mem_append, List.mem_singleton]
  exact ⟨fun h => ⟨fun y hy => h y (.inl hy), h x (.inr rfl)⟩, fun h y hy => by
    rcases hy with hy | rfl
    · exact h.1 y hy
    · exact h.2⟩
end Go.Proofs.YtloacoalmfaceaaGreatDoor
