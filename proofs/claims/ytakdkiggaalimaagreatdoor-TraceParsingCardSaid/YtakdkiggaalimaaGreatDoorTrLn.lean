/-
  What has a short text is short: plain lemmas on the lengths of valid actions and events.
-/
import Derived.Test.YtakdkiggaalimaaGreatDoorTrWA
namespace Go.Proofs.YtakdkiggaalimaaGreatDoor
open Go.RowKit Go.Maps
open Go.Lib (itoa)

theorem aPuts_groups (x : ActC) : ∀ (fs : List Nat), 6 ∉ fs → (∀ g ∈ fs, g < 7) → ∀ b : ActC, (aPuts x fs b).groups = b.groups
  | [], _, _, _ => rfl
  | f :: r, h, hl, b => by
    have h1 : (aPuts x (f :: r) b).groups = (aPuts x r (aPut x b f)).groups := rfl
    rw [h1, aPuts_groups x r (fun q => h (by simp [q])) (fun g hg => hl g (by simp [hg]))]
    have hf : f < 7 := hl f (by simp)
    have hn : f ≠ 6 := fun e => h (by simp [e])
    obtain rfl | rfl | rfl | rfl | rfl | rfl : f = 0 ∨ f = 1 ∨ f = 2 ∨ f = 3 ∨ f = 4 ∨ f = 5 := by omega
    all_goals rfl
theorem aPuts_srcs (x : ActC) : ∀ (fs : List Nat), 5 ∉ fs → (∀ g ∈ fs, g < 7) → ∀ b : ActC, (aPuts x fs b).srcs = b.srcs
  | [], _, _, _ => rfl
  | f :: r, h, hl, b => by
    have h1 : (aPuts x (f :: r) b).srcs = (aPuts x r (aPut x b f)).srcs := rfl
    rw [h1, aPuts_srcs x r (fun q => h (by simp [q])) (fun g hg => hl g (by simp [hg]))]
    have hf : f < 7 := hl f (by simp)
    have hn : f ≠ 5 := fun e => h (by simp [e])
    obtain rfl | rfl | rfl | rfl | rfl | rfl : f = 0 ∨ f = 1 ∨ f = 2 ∨ f = 3 ∨ f = 4 ∨ f = 6 := by omega
    all_goals rfl
theorem ePuts_act (x : EvC) : ∀ (fs : List Nat), 4 ∉ fs → (∀ g ∈ fs, g < 8) → ∀ b : EvC, (ePuts x fs b).act = b.act
  | [], _, _, _ => rfl
  | f :: r, h, hl, b => by
    have h1 : (ePuts x (f :: r) b).act = (ePuts x r (ePut x b f)).act := rfl
    rw [h1, ePuts_act x r (fun q => h (by simp [q])) (fun g hg => hl g (by simp [hg]))]
    have hf : f < 8 := hl f (by simp)
    have hn : f ≠ 4 := fun e => h (by simp [e])
    obtain rfl | rfl | rfl | rfl | rfl | rfl | rfl : f = 0 ∨ f = 1 ∨ f = 2 ∨ f = 3 ∨ f = 5 ∨ f = 6 ∨ f = 7 := by omega
    all_goals rfl
theorem ePuts_body (x : EvC) : ∀ (fs : List Nat), 5 ∉ fs → (∀ g ∈ fs, g < 8) → ∀ b : EvC, (ePuts x fs b).ebody = b.ebody
  | [], _, _, _ => rfl
  | f :: r, h, hl, b => by
    have h1 : (ePuts x (f :: r) b).ebody = (ePuts x r (ePut x b f)).ebody := rfl
    rw [h1, ePuts_body x r (fun q => h (by simp [q])) (fun g hg => hl g (by simp [hg]))]
    have hf : f < 8 := hl f (by simp)
    have hn : f ≠ 5 := fun e => h (by simp [e])
    obtain rfl | rfl | rfl | rfl | rfl | rfl | rfl : f = 0 ∨ f = 1 ∨ f = 2 ∨ f = 3 ∨ f = 4 ∨ f = 6 ∨ f = 7 := by omega
    all_goals rfl
theorem flat_long {α : Type} (g : Nat → List α) : ∀ (fs : List Nat) (f : Nat), f ∈ fs → (g f).length ≤ (fs.flatMap g).length
  | [], _, h => by cases h
  | x :: r, f, h => by
    rw [List.flatMap_cons, List.length_append]
    rcases List.mem_cons.1 h with e | e
    · rw [e]
      omega
    · have := flat_long g r f e
      omega
theorem srcsW_big (l : List SrcC) : (l.map (fun s => s.nodes.length + 1)).sum ≤ (srcsW l).length := by
  induction l with
  | nil => simp [srcsW]
  | cons s r ih =>
    unfold srcsW at ih ⊢
    rw [List.flatMap_cons, List.length_append, List.map_cons, List.sum_cons]
    have e : (srcW s).length = s.nodes.length + 2 := by simp [srcW, listW]
    omega
theorem five_six {k : Int} (h : actN k ≠ []) (h5 : 5 ∈ actF k) : 6 ∉ actF k :=
  int_19 (P := fun k => 5 ∈ actF k → 6 ∉ actF k) (by decide) (actN_in h).1 (actN_in h).2 h5
theorem act_words {a : ActC} (h : ActOk a) : actSize a ≤ (actW a).length := by
  have hc : aPuts act0 (actF a.kind) a = kindA a.kind := h.2
  have hg : 6 ∉ actF a.kind → a.groups = [] := fun q => by
    rw [← aPuts_groups act0 _ q (actF_lt _) a, hc]
    rfl
  have hs : 5 ∉ actF a.kind → a.srcs = [] := fun q => by
    rw [← aPuts_srcs act0 _ q (actF_lt _) a, hc]
    rfl
  have hw : (actW a).length = 1 + ((actF a.kind).flatMap (aW a)).length := by
    unfold actW
    rw [List.length_cons]
    omega
  have h5 : (aW a 5).length = 1 + (srcsW a.srcs).length := by
    show (itoa a.srcs.length :: a.srcs.flatMap srcW).length = _
    rw [List.length_cons]
    unfold srcsW
    omega
  have h6 : (aW a 6).length = 1 + a.groups.length := by
    show (listW a.groups).length = _
    simp [listW]
    omega
  have hb := srcsW_big a.srcs
  unfold actSize
  by_cases q5 : 5 ∈ actF a.kind
  · rw [hg (five_six h.1 q5)]
    have := flat_long (aW a) _ 5 q5
    simp only [List.length_nil]
    omega
  · rw [hs q5]
    by_cases q6 : 6 ∈ actF a.kind
    · have := flat_long (aW a) _ 6 q6
      simp only [List.map_nil, List.sum_nil]
      omega
    · rw [hg q6]
      simp
theorem line_long {ws : List Wd} (h0 : ws ≠ []) (hn : ∀ w ∈ ws, (32 : UInt8) ∉ w) : ws.length ≤ (lineW ws).length + 1 := by
  have := wordsL_len (lineW ws)
  rwa [words_line ws h0 hn] at this
theorem act_short {a : ActC} (h : ActOk a) : actSize a ≤ (actT a).length + 1 :=
  Nat.le_trans (act_words h) (line_long (by simp [actW]) (actW_no a))
theorem act0_size : actSize act0 = 0 := rfl
theorem ev_short {e : EvC} (h : EvOk e) : actSize e.act ≤ (evT e).length + 1 ∧ e.ebody.length ≤ (evT e).length := by
  have hc : ePuts ev0 (evF e.kind) e = kindE e.kind e.tick := h.2.2.2
  have hw : (evW e).length = 2 + ((evF e.kind).flatMap (eW e)).length := by
    unfold evW
    rw [List.length_cons, List.length_cons]
    omega
  have hl : (evW e).length ≤ (evT e).length + 1 := line_long (by simp [evW]) (evW_no e)
  constructor
  · by_cases q : 4 ∈ evF e.kind
    · have h1 := act_words (h.2.2.1 q)
      have h2 := flat_long (eW e) _ 4 q
      have h3 : (eW e 4).length = (actW e.act).length := rfl
      omega
    · have e1 : e.act = act0 := by
        rw [← ePuts_act ev0 _ q (evF_lt _) e, hc]
        rfl
      rw [e1, act0_size]
      omega
  · by_cases q : 5 ∈ evF e.kind
    · have hm : hexW e.ebody ∈ evW e := by
        unfold evW
        refine List.mem_cons_of_mem _ (List.mem_cons_of_mem _ (List.mem_flatMap.2 ⟨5, q, ?_⟩))
        show hexW e.ebody ∈ [itoa e.eterm, itoa e.ekind, hexW e.ebody]
        simp
      have h1 := lineW_len hm
      have h2 : (hexW e.ebody).length = 1 + 2 * e.ebody.length := by
        unfold hexW
        rw [List.length_cons]
        have : ∀ b : Wd, (b.flatMap (fun x => [hexD (x.toNat / 16), hexD (x.toNat % 16)])).length = 2 * b.length := fun b => by
          induction b with
          | nil => rfl
          | cons x r ih =>
            rw [List.flatMap_cons, List.length_append, ih, List.length_cons]
            simp
            omega
        rw [this]
        omega
      have h3 : (lineW (evW e)).length = (evT e).length := rfl
      omega
    · have e1 : e.ebody = [] := by
        rw [← ePuts_body ev0 _ q (evF_lt _) e, hc]
        rfl
      rw [e1]
      simp
end Go.Proofs.YtakdkiggaalimaaGreatDoor
