/-
  How large the reference's guess can be; what it holds (plain).
-/
import Derived.Test.YtakdkiggaalimaaGreatDoorTrG
import Derived.Test.YtakdkiggaalimaaGreatDoorTrWA
namespace Go.Proofs.YtakdkiggaalimaaGreatDoor
open Go.Lib

theorem spanR_len (w : List Wd) (i : Nat) : (spanR w i).length ≤ w.length - (i + 1) := by
  unfold spanR
  rw [List.length_map, List.length_take, List.length_drop]
  omega
theorem spanR_64 {w : List Wd} {i : Nat} : ∀ v ∈ spanR w i, Is64 v := fun v hv => by
  unfold spanR at hv
  obtain ⟨x, _, rfl⟩ := List.mem_map.1 hv
  exact numR_64 x
theorem srcsR_len (w : List Wd) : ∀ (n i : Nat), ((srcsR w n i).map (fun s => s.nodes.length + 1)).sum ≤ w.length - i
  | 0, i => by simp [srcsR]
  | n + 1, i => by
    unfold srcsR
    split
    · have ih := srcsR_len w n (i + 2 + (spanR w (i + 1)).length)
      have h1 := spanR_len w (i + 1)
      rw [List.map_cons, List.sum_cons]
      show (spanR w (i + 1)).length + 1 + _ ≤ _
      omega
    · simp
theorem srcsR_in {w : List Wd} : ∀ {n i : Nat}, ∀ s ∈ srcsR w n i, Is64 s.kind ∧ s.nodes.length ≤ w.length ∧ ∀ v ∈ s.nodes, Is64 v
  | 0, i, s, hs => by simp [srcsR] at hs
  | n + 1, i, s, hs => by
    unfold srcsR at hs
    split at hs
    · rcases List.mem_cons.1 hs with rfl | hs
      · exact ⟨atR_64 _ _, Nat.le_trans (spanR_len w (i + 1)) (Nat.sub_le _ _), spanR_64⟩
      · exact srcsR_in s hs
    · cases hs
theorem sum_count (l : List SrcC) : l.length ≤ (l.map (fun s => s.nodes.length + 1)).sum := by
  induction l with
  | nil => simp
  | cons s l ih =>
    rw [List.map_cons, List.sum_cons, List.length_cons]
    omega
theorem kindOfA_range (w : List Wd) : 0 ≤ kindOfA w ∧ kindOfA w ≤ 19 := by
  unfold kindOfA
  split
  · omega
  · exact kindR_range actN _ 19
theorem kindA_r {k : Int} (h : Is64 k) : ActR (kindA k) := ⟨h, is64_0, is64_0, is64_0, is64_0, is64_0, Nat.zero_le _, (fun s hs => by cases hs), Nat.zero_le _, (fun s hs => by cases hs)⟩
theorem int_20 {P : Int → Prop} (h : P 0 ∧ P 1 ∧ P 2 ∧ P 3 ∧ P 4 ∧ P 5 ∧ P 6 ∧ P 7 ∧ P 8 ∧ P 9 ∧ P 10 ∧ P 11 ∧ P 12 ∧ P 13 ∧ P 14 ∧ P 15 ∧ P 16 ∧ P 17 ∧ P 18 ∧ P 19) {k : Int} (h0 : 0 ≤ k) (h1 : k ≤ 19) : P k := by
  have hc : k = 0 ∨ k = 1 ∨ k = 2 ∨ k = 3 ∨ k = 4 ∨ k = 5 ∨ k = 6 ∨ k = 7 ∨ k = 8 ∨ k = 9 ∨ k = 10 ∨ k = 11 ∨ k = 12 ∨ k = 13 ∨ k = 14 ∨ k = 15 ∨ k = 16 ∨ k = 17 ∨ k = 18 ∨ k = 19 := by omega
  obtain ⟨p0, p1, p2, p3, p4, p5, p6, p7, p8, p9, p10, p11, p12, p13, p14, p15, p16, p17, p18, p19⟩ := h
  rcases hc with rfl | rfl | rfl | rfl | rfl | rfl | rfl | rfl | rfl | rfl | rfl | rfl | rfl | rfl | rfl | rfl | rfl | rfl | rfl | rfl <;> assumption
theorem guessK_r {k : Int} (h0 : 0 ≤ k) (h1 : k ≤ 19) (w : List Wd) (hw : w.length ≤ 1099511627776) : ActR (guessK k w) ∧ actSize (guessK k w) ≤ w.length ∧ (guessK k w).kind = k := by
  have hs := srcsR_len w (atR w 2).toNat 3
  have hc := sum_count (srcsR w (atR w 2).toNat 3)
  have hn := spanR_len w 1
  have h64 : ∀ j : Int, 0 ≤ j → j ≤ 19 → Is64 j := fun j a b => by unfold Is64; omega
  refine int_20 (P := fun k => ActR (guessK k w) ∧ actSize (guessK k w) ≤ w.length ∧ (guessK k w).kind = k) ?_ h0 h1
  have z : ∀ {a : ActC}, a.groups = [] → a.srcs = [] → actSize a ≤ w.length := fun e1 e2 => by unfold actSize; rw [e1, e2]; exact Nat.zero_le _
  have r : ∀ {a : ActC}, Is64 a.kind → Is64 a.who → Is64 a.n → Is64 a.call → Is64 a.other → Is64 a.node → a.groups = [] → a.srcs = [] → ActR a := fun a1 a2 a3 a4 a5 a6 e1 e2 =>
    ⟨a1, a2, a3, a4, a5, a6, by rw [e2]; exact Nat.zero_le _, by rw [e2]; exact (fun s hs => by cases hs), by rw [e1]; exact Nat.zero_le _, by rw [e1]; exact (fun s hs => by cases hs)⟩
  have t := atR_64 w
  have o := is64_0
  refine ⟨?_, ?_, ?_, ?_, ?_, ?_, ?_, ?_, ?_, ?_, ?_, ?_, ?_, ?_, ?_, ?_, ?_, ?_, ?_, ?_⟩
  · exact ⟨r o o o o o o rfl rfl, z rfl rfl, rfl⟩
  · refine ⟨⟨h64 1 (by decide) (by decide), o, o, o, o, t 1, ?_, ?_, Nat.zero_le _, (fun s hs => by cases hs)⟩, ?_, rfl⟩
    · show (srcsR w (atR w 2).toNat 3).length ≤ _
      omega
    · intro s hs
      obtain ⟨a, b, c⟩ := srcsR_in s hs
      exact ⟨a, Nat.le_trans b hw, c⟩
    · show 0 + ((srcsR w (atR w 2).toNat 3).map (fun s => s.nodes.length + 1)).sum ≤ _
      omega
  · exact ⟨r (h64 2 (by decide) (by decide)) o (t _) (t _) o o rfl rfl, z rfl rfl, rfl⟩
  · exact ⟨r (h64 3 (by decide) (by decide)) o o (t _) o o rfl rfl, z rfl rfl, rfl⟩
  · exact ⟨r (h64 4 (by decide) (by decide)) o o o o o rfl rfl, z rfl rfl, rfl⟩
  · exact ⟨r (h64 5 (by decide) (by decide)) o (t _) o o o rfl rfl, z rfl rfl, rfl⟩
  · exact ⟨r (h64 6 (by decide) (by decide)) o (t _) o o o rfl rfl, z rfl rfl, rfl⟩
  · exact ⟨r (h64 7 (by decide) (by decide)) o (t _) o o o rfl rfl, z rfl rfl, rfl⟩
  · refine ⟨⟨h64 8 (by decide) (by decide), o, o, o, o, o, Nat.zero_le _, (fun s hs => by cases hs), ?_, spanR_64⟩, ?_, rfl⟩
    · show (spanR w 1).length ≤ _
      omega
    · show (spanR w 1).length + 0 ≤ _
      omega
  · exact ⟨r (h64 9 (by decide) (by decide)) o o o o o rfl rfl, z rfl rfl, rfl⟩
  · exact ⟨r (h64 10 (by decide) (by decide)) (t _) (t _) o o o rfl rfl, z rfl rfl, rfl⟩
  · exact ⟨r (h64 11 (by decide) (by decide)) (t _) o o o o rfl rfl, z rfl rfl, rfl⟩
  · exact ⟨r (h64 12 (by decide) (by decide)) (t _) o o o o rfl rfl, z rfl rfl, rfl⟩
  · exact ⟨r (h64 13 (by decide) (by decide)) (t _) o o o o rfl rfl, z rfl rfl, rfl⟩
  · exact ⟨r (h64 14 (by decide) (by decide)) (t _) (t _) (t _) o o rfl rfl, z rfl rfl, rfl⟩
  · exact ⟨r (h64 15 (by decide) (by decide)) (t _) o (t _) (t _) o rfl rfl, z rfl rfl, rfl⟩
  · exact ⟨r (h64 16 (by decide) (by decide)) (t _) o (t _) (t _) o rfl rfl, z rfl rfl, rfl⟩
  · exact ⟨r (h64 17 (by decide) (by decide)) (t _) o (t _) o o rfl rfl, z rfl rfl, rfl⟩
  · exact ⟨r (h64 18 (by decide) (by decide)) (t _) (t _) o o o rfl rfl, z rfl rfl, rfl⟩
  · exact ⟨r (h64 19 (by decide) (by decide)) (t _) (t _) o o (t _) rfl rfl, z rfl rfl, rfl⟩
theorem guessA_r (w : List Wd) (hw : w.length ≤ 1099511627776) : ActR (guessA w) := (guessK_r (kindOfA_range w).1 (kindOfA_range w).2 w hw).1
theorem guessA_size (w : List Wd) (hw : w.length ≤ 1099511627776) : actSize (guessA w) ≤ w.length := (guessK_r (kindOfA_range w).1 (kindOfA_range w).2 w hw).2.1
end Go.Proofs.YtakdkiggaalimaaGreatDoor
