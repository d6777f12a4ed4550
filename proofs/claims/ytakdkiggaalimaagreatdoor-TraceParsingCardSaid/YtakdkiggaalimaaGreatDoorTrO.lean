/-
  Which fields an action and an event may have: two ways to say it (plain).
-/
import Derived.Test.YtakdkiggaalimaaGreatDoorTrF
namespace Go.Proofs.YtakdkiggaalimaaGreatDoor
open Go.Lib

theorem aPuts_over (a x : ActC) : ∀ (fs : List Nat), fs.Nodup → (∀ g ∈ fs, g < 7) → ∀ b, aPuts a fs (aPuts x fs b) = aPuts a fs b
  | [], _, _, _ => rfl
  | f :: fs, hn, hl, b => by
    obtain ⟨h1, h2⟩ := List.nodup_cons.1 hn
    have hl2 : ∀ g ∈ fs, g < 7 := fun g hg => hl g (by simp [hg])
    have e1 : ∀ y c : ActC, aPuts y (f :: fs) c = aPuts y fs (aPut y c f) := fun _ _ => rfl
    rw [e1, e1, aPuts_comm a a (hl f (by simp)) fs h1 hl2, aPuts_over a x fs h2 hl2, ← aPuts_comm a a (hl f (by simp)) fs h1 hl2, aPut_same]
    rfl
theorem aPut_id (a : ActC) (f : Nat) : aPut a a f = a := by
  rcases f with _ | _ | _ | _ | _ | _ | f <;> rfl
theorem aPuts_self (a : ActC) : ∀ fs : List Nat, aPuts a fs a = a
  | [] => rfl
  | f :: fs => by
    have e : aPuts a (f :: fs) a = aPuts a fs (aPut a a f) := rfl
    rw [e, aPut_id, aPuts_self a fs]
theorem aPuts_zero (k : Int) : ∀ fs : List Nat, aPuts act0 fs (kindA k) = kindA k
  | [] => rfl
  | f :: fs => by
    have e : aPuts act0 (f :: fs) (kindA k) = aPuts act0 fs (aPut act0 (kindA k) f) := rfl
    rw [e, aPut_zero, aPuts_zero k fs]
/-- an action with the fields of its kind alone. -/
def onlyA (a : ActC) : ActC := aPuts a (actF a.kind) (kindA a.kind)
theorem onlyA_iff {a : ActC} : ActOk a ↔ actN a.kind ≠ [] ∧ a = onlyA a := by
  unfold ActOk onlyA aClr
  refine and_congr_right fun _ => ⟨fun h => ?_, fun h => ?_⟩
  · rw [← h, aPuts_over _ _ _ (actF_nodup _) (actF_lt _), aPuts_self]
  · have e : aPuts act0 (actF a.kind) a = aPuts act0 (actF a.kind) (aPuts a (actF a.kind) (kindA a.kind)) := congrArg _ h
    rw [e, aPuts_over _ _ _ (actF_nodup _) (actF_lt _), aPuts_zero]
theorem ePuts_over (a x : EvC) : ∀ (fs : List Nat), fs.Nodup → (∀ g ∈ fs, g < 8) → ∀ b, ePuts a fs (ePuts x fs b) = ePuts a fs b
  | [], _, _, _ => rfl
  | f :: fs, hn, hl, b => by
    obtain ⟨h1, h2⟩ := List.nodup_cons.1 hn
    have hl2 : ∀ g ∈ fs, g < 8 := fun g hg => hl g (by simp [hg])
    have e1 : ∀ y c : EvC, ePuts y (f :: fs) c = ePuts y fs (ePut y c f) := fun _ _ => rfl
    rw [e1, e1, ePuts_comm a a (hl f (by simp)) fs h1 hl2, ePuts_over a x fs h2 hl2, ← ePuts_comm a a (hl f (by simp)) fs h1 hl2, ePut_same]
    rfl
theorem ePut_id (a : EvC) (f : Nat) : ePut a a f = a := by
  rcases f with _ | _ | _ | _ | _ | _ | _ | f <;> rfl
theorem ePuts_self (a : EvC) : ∀ fs : List Nat, ePuts a fs a = a
  | [] => rfl
  | f :: fs => by
    have e : ePuts a (f :: fs) a = ePuts a fs (ePut a a f) := rfl
    rw [e, ePut_id, ePuts_self a fs]
theorem ePuts_zero (k t : Int) : ∀ fs : List Nat, ePuts ev0 fs (kindE k t) = kindE k t
  | [] => rfl
  | f :: fs => by
    have e : ePuts ev0 (f :: fs) (kindE k t) = ePuts ev0 fs (ePut ev0 (kindE k t) f) := rfl
    rw [e, ePut_zero, ePuts_zero k t fs]
/-- an event with the fields of its kind alone. -/
def onlyE (e : EvC) : EvC := ePuts e (evF e.kind) (kindE e.kind e.tick)
theorem onlyE_iff {e : EvC} : eClr (evF e.kind) e = kindE e.kind e.tick ↔ e = onlyE e := by
  unfold onlyE eClr
  refine ⟨fun h => ?_, fun h => ?_⟩
  · rw [← h, ePuts_over _ _ _ (evF_nodup _) (evF_lt _), ePuts_self]
  · have q : ePuts ev0 (evF e.kind) e = ePuts ev0 (evF e.kind) (ePuts e (evF e.kind) (kindE e.kind e.tick)) := congrArg _ h
    rw [q, ePuts_over _ _ _ (evF_nodup _) (evF_lt _), ePuts_zero]
theorem ActR.vas {a : ActC} (h : ActR a) (fs : List Nat) : VAs fs a := fun f _ => by
  rcases f with _ | _ | _ | _ | _ | _ | f
  · exact h.who
  · exact h.n
  · exact h.call
  · exact h.other
  · exact h.node
  · exact ⟨h.slen, fun s hs => ⟨(h.srcs s hs).1, (h.srcs s hs).2.1, (h.srcs s hs).2.2⟩⟩
  · exact ⟨h.glen, h.groups⟩
theorem ActR.vact {a : ActC} (h : ActR a) (ho : ActOk a) : VAct a := ⟨ho, h.vas _⟩
theorem EvR.vev {e : EvC} (h : EvR e) (ho : EvOk e) : VEv e := by
  refine ⟨⟨ho.1, h.tick, ho.2.2.2⟩, fun f hf => ?_⟩
  have h4 := ho.2.2.1
  rcases f with _ | _ | _ | _ | _ | _ | _ | f
  · exact h.who
  · exact h.call
  · exact h.epoch
  · exact h.n
  · exact h.act.vact (h4 hf)
  · exact ⟨h.eterm, h.ekind⟩
  · exact h.ord
  · exact h.sta
end Go.Proofs.YtakdkiggaalimaaGreatDoor
