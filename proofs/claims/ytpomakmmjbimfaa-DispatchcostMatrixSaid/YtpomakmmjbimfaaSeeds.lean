/-
  Plain: the reference's distances before its first round.
-/
import Derived.Test.YtpomakmmjbimfaaBell
namespace Go.Proofs.Ytpomakmmjbimfaa

def seed1 (n : Nat) (D : List Int) (z : Int) : List Int := if 0 ≤ z ∧ z < n then D.set z.toNat 0 else D
def seedsK (n : Nat) (ss : List Int) : List Int := ss.foldl (seed1 n) (List.replicate n 4611686018427387904)
theorem seedsK_snoc (n : Nat) (ss : List Int) (z : Int) : seedsK n (ss ++ [z]) = seed1 n (seedsK n ss) z := by simp [seedsK]

def Seeded (n : Nat) (T : Nat → Prop) (D : List Int) : Prop := D.length = n ∧ (∀ s, T s → D[s]? = some 0) ∧ ∀ (v : Nat) (d : Int), D[v]? = some d → d = 4611686018427387904 ∨ (d = 0 ∧ T v)
theorem seeded_one {n : Nat} {T : Nat → Prop} {D : List Int} (h : Seeded n T D) (z : Int) : Seeded n (fun s => T s ∨ ((s : Int) = z ∧ s < n)) (seed1 n D z) := by
  obtain ⟨h1, h2, h3⟩ := h
  unfold seed1
  split
  · rename_i hz
    obtain ⟨t, rfl⟩ : ∃ t : Nat, z = (t : Int) := ⟨z.toNat, by omega⟩
    rw [Int.toNat_natCast]
    refine ⟨by rw [List.length_set]; exact h1, fun s hs => ?_, fun v d hd => ?_⟩
    · by_cases c : t = s
      · subst c
        rw [List.getElem?_set_self (by omega)]
      · rw [List.getElem?_set_ne c]
        rcases hs with hs | ⟨hs, _⟩
        · exact h2 s hs
        · omega
    · by_cases c : t = v
      · subst c
        rw [List.getElem?_set_self (by omega)] at hd
        cases hd
        exact .inr ⟨rfl, .inr ⟨rfl, by omega⟩⟩
      · rw [List.getElem?_set_ne c] at hd
        rcases h3 v d hd with k | ⟨k1, k2⟩
        · exact .inl k
        · exact .inr ⟨k1, .inl k2⟩
  · rename_i hz
    refine ⟨h1, fun s hs => ?_, fun v d hd => ?_⟩
    · rcases hs with hs | ⟨hs, hn⟩
      · exact h2 s hs
      · exact absurd (by omega) hz
    · rcases h3 v d hd with k | ⟨k1, k2⟩
      · exact .inl k
      · exact .inr ⟨k1, .inl k2⟩
theorem seeded_all {n : Nat} : ∀ (ss : List Int) {T : Nat → Prop} {D : List Int}, Seeded n T D → Seeded n (fun s => T s ∨ ((s : Int) ∈ ss ∧ s < n)) (ss.foldl (seed1 n) D)
  | [], T, D, h => ⟨h.1, fun s hs => h.2.1 s (by simpa using hs), fun v d hd => by
      rcases h.2.2 v d hd with k | ⟨k1, k2⟩
      · exact .inl k
      · exact .inr ⟨k1, .inl k2⟩⟩
  | z :: ss, T, D, h => by
    have := seeded_all ss (seeded_one h z)
    refine ⟨this.1, fun s hs => this.2.1 s ?_, fun v d hd => ?_⟩
    · rcases hs with hs | ⟨hs, hn⟩
      · exact .inl (.inl hs)
      · rcases List.mem_cons.1 hs with hs | hs
        · exact .inl (.inr ⟨hs, hn⟩)
        · exact .inr ⟨hs, hn⟩
    · rcases this.2.2 v d hd with k | ⟨k1, (k2 | ⟨k2, k3⟩) | ⟨k2, k3⟩⟩
      · exact .inl k
      · exact .inr ⟨k1, .inl k2⟩
      · exact .inr ⟨k1, .inr ⟨by rw [k2]; simp, k3⟩⟩
      · exact .inr ⟨k1, .inr ⟨List.mem_cons_of_mem _ k2, k3⟩⟩
theorem seeded_start (n : Nat) (ss : List Int) : Seeded n (fun s => (s : Int) ∈ ss ∧ s < n) (seedsK n ss) := by
  have h0 : Seeded n (fun _ => False) (List.replicate n 4611686018427387904) := ⟨by simp, fun s h => h.elim, fun v d hd => by
    rw [List.getElem?_replicate] at hd
    split at hd <;> simp_all⟩
  have := seeded_all ss h0
  refine ⟨this.1, fun s hs => this.2.1 s (.inr hs), fun v d hd => ?_⟩
  rcases this.2.2 v d hd with k | ⟨k1, k2 | k2⟩
  · exact .inl k
  · exact k2.elim
  · exact .inr ⟨k1, k2⟩
theorem seeds_low (n : Nat) (ss : List Int) (E : List EdgeT) (W : List Int) : Low n (fun s => (s : Int) ∈ ss ∧ s < n) E W (seedsK n ss) := by
  obtain ⟨h1, h2, h3⟩ := seeded_start n ss
  refine ⟨h1, fun v d hd hne => ?_, fun v d hd hne => ?_⟩
  · rcases h3 v d hd with k | ⟨rfl, k2⟩
    · exact absurd k hne
    · exact Way.src k2
  · rcases h3 v d hd with k | ⟨rfl, k2⟩
    · exact absurd k hne
    · omega

theorem seeds_done {n : Nat} {ss : List Int} {E : List EdgeT} {W Ds : List Int} (hn : n ≤ 256) (hW : okW W) (hE : ∀ e ∈ E, 0 ≤ e.frm ∧ e.frm < n ∧ 0 ≤ e.to ∧ e.to < n) (hf : Fin35 n (fun s => (s : Int) ∈ ss ∧ s < n) E W Ds) : roundsK E W (seedsK n ss) n = Ds :=
  rounds_done hn hW hE (seeds_low n ss E W) hf (seeded_start n ss).2.1
end Go.Proofs.Ytpomakmmjbimfaa
