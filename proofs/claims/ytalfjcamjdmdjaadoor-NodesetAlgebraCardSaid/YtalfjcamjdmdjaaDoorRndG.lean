/-
  A region that draws its order and only reads, in a round of a range over a function.
-/
import Derived.Test.YtalfjcamjdmdjaaDoorSeqS
import Derived.Sort.LoopGhostIn
import Derived.Sort.QuietIn
import Derived.Deep.RegionHeld
import Derived.OrdersHeld
namespace Go.Proofs.YtalfjcamjdmdjaaDoor
open Go

def noDefer (ops : Array Oper) : Bool := ops.toList.all fun o => match o.op with | .defer _ => false | _ => true
theorem noDefer_at {ops : Array Oper} (h : noDefer ops = true) {i : Nat} {o : Oper} (ho : ops[i]? = some o) : ∀ c, o.op ≠ .defer c := fun c e => by
  have := List.all_eq_true.1 h o (by rw [Array.mem_toList_iff]; exact Array.mem_of_getElem? ho)
  rw [e] at this
  cases this

theorem wpAnyIn_inRound {F : Fence} {n : Nat} {P : Program} {md : Region.Mode} {ops : Array Oper} {Q : Exit → Act → World → Prop} (l : Nat) (hro : F.round = none) (hd : noDefer ops = true) : ∀ (fuel : Nat) (listed : Array Bool) (a : Act) (w : World), wpAnyIn F n P md ops Q fuel listed a w → wpAnyIn (F.inRound l) n P md ops Q fuel listed a w
  | 0, _, _, _, h => h
  | fuel + 1, listed, a, w, h => by
    refine ⟨h.1, fun i hi => ?_⟩
    have h2 := h.2 i hi
    unfold wpOpIn at h2 ⊢
    cases ho : ops[i]? with
    | none =>
      rw [ho] at h2
      exact wpAnyIn_inRound l hro hd fuel _ _ _ h2
    | some o =>
      rw [ho] at h2
      simp only at h2 ⊢
      split at h2
      · rename_i hw
        rw [if_pos hw]
        refine Oper.wpIn_mono (fun a' w' k => wpAnyIn_inRound l hro hd fuel _ _ _ k) ?_
        unfold Oper.wpIn at h2 ⊢
        rw [hro, Oper.semAt_none] at h2
        rw [Fence.inRound_round, Oper.semAt_some l _ _ (noDefer_at hd ho)]
        exact h2
      · rename_i hw
        rw [if_neg hw]
        exact ⟨h2.1, wpAnyIn_inRound l hro hd fuel _ _ _ h2.2⟩

theorem wpIn_region_quiet_round {F : Fence} {n : Nat} {P : Program} {id : Nat} {Q : Exit → Act → World → Prop} {a : Act} {w : World} {ops : List Oper} {l : Nat} (hro : F.round = none) (hm : P.follows .mixedOrders = true) (hB : Region.lexB .any ops.toArray = true) (hd : noDefer ops.toArray = true)
    (h : wpQuietIn F n P ops.toArray (fun w' => ∃ n, w' = w.drewN n) (fun a' => ∀ w', (∃ n, w' = w.drewN n) → Q .normal a' w') ops a) : (Code.region id ops.toArray true).wpIn (F.inRound l) n P Q a w := by
  simp only [Region.lexB, Bool.and_eq_true] at hB
  refine wpIn_region_any hm (wpAnyIn_inRound l hro hd _ _ _ _ (wpAnyIn_of_quiet (C := fun w' => ∃ n, w' = w.drewN n) (Q := fun a' => ∀ w', (∃ n, w' = w.drewN n) → Q .normal a' w') hro (fun _ w' hw' h => h w' hw') _ _ _ _ ⟨1, rfl⟩ ?_))
  have := wpAnyQIn_lex (F := F) (n := n) (C := fun w' => ∃ n, w' = w.drewN n) (md := .any) hB.1 ops 0 (Array.replicate ops.toArray.size false) a (by simp) (by simpa using hB.2) h
  simpa using this

/-- from a walk of all orders outside to one in the wide fence, where nothing lets out. -/
theorem wpOpIn_of_wpOp {n : Nat} {P : Program} {ops : Array Oper} {Q : Exit → Act → World → Prop} (hq : ¬ LetsOut Q) {i : Nat} {K K' : Act → World → Prop} (hK : ∀ a w, K a w → K' a w) {a : Act} {w : World} (h : wpOp P ops Q i K a w) : wpOpIn Fence.wide n P ops Q i K' a w := by
  unfold wpOp at h
  unfold wpOpIn
  cases ho : ops[i]? with
  | none =>
    rw [ho] at h
    exact hK _ _ h
  | some o =>
    rw [ho] at h
    simp only at h ⊢
    split at h
    · rename_i hw
      rw [if_pos hw]
      rcases h with h | ⟨_, h⟩
      · have h := Oper.wp_mono hK h
        refine ⟨fun _ _ => trivial, ?_⟩
        have e : Oper.semAt Fence.wide.round a.eval o = execOp a.eval o := rfl
        rw [e]
        unfold Oper.wp at h
        generalize (execOp a.eval o).run P w = r at h ⊢
        cases r with
        | ok nx w' =>
          cases nx with
          | value v => exact h
          | skip => exact h
          | defer d => exact h
          | enter f args =>
            refine ⟨fun e => ?_, callsIn_wide.2 h⟩
            cases e
          | row row args =>
            refine ⟨fun e => ?_, fun c cs _ => ?_⟩
            · cases e
            · obtain ⟨v, w', r, s⟩ := h c cs
              exact ⟨v, w', r, stepsIn_wide.2 s⟩
          | _ => exact h.elim
        | halt hh w' =>
          cases hh with
          | panic v => exact h
          | _ => exact h.elim
      · exact absurd h hq
    · rename_i hw
      rw [if_neg hw]
      exact ⟨fun _ _ => trivial, hK _ _ h⟩
theorem wpAnyIn_of_wpAny {n : Nat} {P : Program} {md : Region.Mode} {ops : Array Oper} {Q : Exit → Act → World → Prop} (hq : ¬ LetsOut Q) : ∀ (fuel : Nat) (listed : Array Bool) (a : Act) (w : World), wpAny P md ops Q fuel listed a w → wpAnyIn Fence.wide n P md ops Q fuel listed a w
  | 0, _, _, _, h => h
  | fuel + 1, _, _, _, h => ⟨h.1, fun i hi => wpOpIn_of_wpOp hq (fun _ _ k => wpAnyIn_of_wpAny hq fuel _ _ _ k) (h.2 i hi)⟩

/-- a region that draws its order, in a round, by the cells that it leaves alone (S). -/
theorem wpIn_region_held_round {S : World → Prop} {n : Nat} {P : Program} {id : Nat} {Q : Exit → Act → World → Prop} {a : Act} {w : World} {ops : Array Oper} {l : Nat} (hm : P.follows .mixedOrders = true) (hd : noDefer ops = true) (hS : S w.drew)
    (h : S w.drew → wpAnyH P .any ops (fun e a' w' => e = .normal ∧ Q .normal a' w') S ops.size (Array.replicate ops.size false) a w.drew) : (Code.region id ops true).wpIn (Fence.wide.inRound l) n P Q a w := by
  refine wpIn_mono (Q := fun e a' w' => e = .normal ∧ Q .normal a' w') ?_ (fun e a' w' hh => by obtain ⟨rfl, k⟩ := hh; exact k)
  have hq : ¬ LetsOut (fun (e : Exit) (a' : Act) (w' : World) => e = .normal ∧ Q .normal a' w') := by
    rintro ⟨_, _, e, _⟩
    cases e
  exact wpIn_region_any hm (wpAnyIn_inRound l rfl hd _ _ _ _ (wpAnyIn_of_wpAny hq _ _ _ _ (wpAny_of_held _ _ _ _ (h hS))))
end Go.Proofs.YtalfjcamjdmdjaaDoor
