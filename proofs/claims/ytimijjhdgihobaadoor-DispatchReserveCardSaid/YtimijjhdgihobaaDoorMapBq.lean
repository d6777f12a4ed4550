/-
  A map from whatever keys to bool that the call made, read key by key.
  No condition: plain lemmas over whatever program.
-/
import Derived.Test.YtimijjhdgihobaaDoorMqa
import Derived.Lib.SmallJoins
import Derived.MapViews
import Derived.DeepKeys4
namespace Go.Proofs.YtimijjhdgihobaaDoor
section
open Go.RowKit Go.Maps Go.Joins

/-- Block b is a map to bool; at the key x stands S x. -/
def MapB (P : Program) (k e : TypeId) (w : World) (b n : Nat) (S : Value → Bool) : Prop :=
  ∃ D : DataW Unit, w.ownsMap P k (plainElem P e) b n D ∧ ∀ x kl, keyOf P k x = some kl → D.atKey kl (.lit (.bool false)) = .lit (.bool (S x))

open Classical in
/-- S with c at x. -/
noncomputable def updB (S : Value → Bool) (x : Value) (c : Bool) : Value → Bool := fun y => if y = x then c else S y

section
variable {P : Program} {k e : TypeId} {w w' : World} {b n : Nat} {S : Value → Bool}
theorem MapB.made : MapB P k e (w.alloc (.map #[] 0)) w.heap.size 0 (fun _ => false) := ⟨_, World.ownsMap_made _ _ _ _, fun _ _ _ => rfl⟩
theorem MapB.kept (h : MapB P k e w b n S) {row : Option Nat} (hg : w.grownBy w' row) (hne : some b ≠ row) : MapB P k e w' b n S := by
  obtain ⟨D, h1, h2⟩ := h
  exact ⟨D, h1.kept hg hne, h2⟩
theorem MapB.alloc (h : MapB P k e w b n S) (o : Obj) : MapB P k e (w.alloc o) b n S := h.kept (World.grownBy_alloc w o none) (by simp)
theorem MapB.below (h : MapB P k e w b n S) (hb : Below w.heap.size w w') : MapB P k e w' b n S := h.kept (row := none) ⟨hb.os, hb.tape, hb.output, hb.size, fun i hi _ => hb.block i hi⟩ (by simp)
theorem MapB.mono (h : MapB P k e w b n S) {n' : Nat} (hn : n ≤ n') : MapB P k e w b n' S := by
  obtain ⟨D, h1, h2⟩ := h
  exact ⟨D, h1.mono hn, h2⟩
theorem MapB.lt (h : MapB P k e w b n S) : b < w.heap.size := by
  obtain ⟨D, h1, _⟩ := h
  exact h1.lt
end

theorem plainElem_bool_of {P : Program} {e : TypeId} (he : P.underlying e = some .bool) {v : Value} {c : Bool} {ps : List MemPlace} (h : plainElem (H := Unit) P e v = some (.lit (.bool c), ps)) : v = .bool c := by
  unfold plainElem at h
  rw [he] at h
  cases v <;> simp at h
  rw [h.1]

theorem wpList_look_bool {P : Program} (w : World) {ops : Array Oper} {rest : List Oper} {o : Oper} {a : Act} {Q : Exit → Act → World → Prop}
    (hg : Region.wanted o (yielded ops a.tmps) = true) (m x : Operand) (t : TypeId) (hop : o.op = Op.lookup t m x false)
    (k e : TypeId) (K : Keyed P k) (ht : P.underlying t = some (.map k e)) (he : P.underlying e = some .bool) (hz : (zeroValue e).run P w = .ok (.bool false) w) (b n : Nat) (S : Value → Bool)
    (hm : a.eval m = .map (some b)) (hown : MapB P k e w b n S) (key : Value) (hx : a.eval x = key) (hkey : ∃ kl, keyOf P k key = some kl)
    (hK : ∀ c : Bool, c = S key → wpList P ops Q rest (a.put o.dst (.bool c)) w) :
    wpList P ops Q (o :: rest) a w := by
  obtain ⟨D, h1, h2⟩ := hown
  obtain ⟨kl, hkl⟩ := hkey
  refine BigFrame.wpList_want hg fun K' hK' => ?_
  obtain ⟨v, ps, hrun, hv⟩ := h1.lookup K ht hz (plainElem_bool he false) hkl
  rw [h2 key kl hkl] at hv
  have := plainElem_bool_of he hv
  subst this
  unfold Oper.wp
  simp [execOp, hop, hm, hx, hrun, Result.andThen]
  exact hK' _ _ (hK _ rfl)

theorem wpList_put_bool {P : Program} (w : World) {ops : Array Oper} {rest : List Oper} {o : Oper} {a : Act} {Q : Exit → Act → World → Prop}
    (hg : o.guard = none) (m x v : Operand) (t : TypeId) (hop : o.op = Op.mapUpdate t m x v)
    (k e : TypeId) (K : Keyed P k) (ht : P.underlying t = some (.map k e)) (he : P.underlying e = some .bool) (b n : Nat) (S : Value → Bool)
    (hm : a.eval m = .map (some b)) (hown : MapB P k e w b n S) (hn : n < 9223372036854775807) (key : Value) (c : Bool) (hx : a.eval x = key) (hv : a.eval v = .bool c) (hkey : ∃ kl, keyOf P k key = some kl)
    (hK : ∀ w', MapB P k e w' b (n + 1) (updB S key c) → w.grownBy w' (some b) → wpList P ops Q rest (a.put o.dst undef) w') :
    wpList P ops Q (o :: rest) a w := by
  obtain ⟨D, h1, h2⟩ := hown
  obtain ⟨kl, hkl⟩ := hkey
  refine wpList_mapUpdate_own w hg m x v t hop k e K ht _ b n D hm h1 (by unfold maxLen; omega) _ _ _ hx hv hkl _ [] (plainElem_bool he c) ?_
  intro w' h3 h4
  refine hK w' ⟨_, h3, fun y ky hy => ?_⟩ h4
  unfold updB
  by_cases hyz : y = key
  · subst hyz
    rw [if_pos rfl]
    obtain rfl : ky = kl := by rw [hy] at hkl; exact Option.some.inj hkl
    exact atKey_put_same h1.isMap (K.key hy) _ _
  · rw [if_neg hyz, atKey_put_other (by intro q; subst q; exact hyz (K.inj hy hkl))]
    exact h2 y ky hy
end
end Go.Proofs.YtimijjhdgihobaaDoor
