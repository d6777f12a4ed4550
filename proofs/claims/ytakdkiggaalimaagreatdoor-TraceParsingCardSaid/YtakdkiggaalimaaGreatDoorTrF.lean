/-
  Reading the fields of actions and events, in plain Lean; their words say what they are.
-/
import Derived.Test.YtakdkiggaalimaaGreatDoorTrR
namespace Go.Proofs.YtakdkiggaalimaaGreatDoor
open Go.Lib

theorem Rds.of {α β : Type} {V1 : α → Prop} {w1 : α → List Wd} {V : β → Prop} {w : β → List Wd} (p : β → α) (hV : ∀ b, V b ↔ V1 (p b)) (hw : ∀ b, w b = w1 (p b)) {st st' : Option (List Wd)} {b : β} (h : Rds V1 w1 st st' (p b)) : Rds V w st st' b := by
  rcases h with ⟨ws, r, e1, e2, hv, e3⟩ | ⟨e1, hn⟩
  · exact .inl ⟨ws, r, e1, e2, (hV b).2 hv, by rw [e3, hw]⟩
  · exact .inr ⟨e1, fun ws e c r hc q => hn ws e (p c) r ((hV c).1 hc) (by rw [q, hw])⟩
def VA (f : Nat) (a : ActC) : Prop := match f with
  | 0 => Is64 a.who
  | 1 => Is64 a.n
  | 2 => Is64 a.call
  | 3 => Is64 a.other
  | 4 => Is64 a.node
  | 5 => VS a.srcs
  | _ => VL a.groups
theorem aPut_same (x a b : ActC) (f : Nat) : aPut x (aPut a b f) f = aPut x b f := by
  rcases f with _ | _ | _ | _ | _ | _ | f <;> rfl
theorem aPut_self (a x : ActC) (f : Nat) : aPut a (aPut x a f) f = a := by
  rcases f with _ | _ | _ | _ | _ | _ | f <;> rfl
theorem aPut_comm (x a b : ActC) {f g : Nat} (hf : f < 7) (hg : g < 7) (h : f ≠ g) : aPut x (aPut a b f) g = aPut a (aPut x b g) f := by
  rcases f with _ | _ | _ | _ | _ | _ | f <;> rcases g with _ | _ | _ | _ | _ | _ | g <;> first | rfl | omega
theorem aPut_zero (k : Int) (f : Nat) : aPut act0 (kindA k) f = kindA k := by
  rcases f with _ | _ | _ | _ | _ | _ | f <;> rfl
theorem aPut_kind (a b : ActC) (f : Nat) : (aPut a b f).kind = b.kind := by
  rcases f with _ | _ | _ | _ | _ | _ | f <;> rfl
theorem aPut_from (x a d : ActC) {f g : Nat} (hf : f < 7) (hg : g < 7) (h : f ≠ g) : aPut (aPut x a f) d g = aPut a d g := by
  rcases f with _ | _ | _ | _ | _ | _ | f <;> rcases g with _ | _ | _ | _ | _ | _ | g <;> first | rfl | omega
theorem aPut_from_same (x a d : ActC) (f : Nat) : aPut (aPut x a f) d f = aPut x d f := by
  rcases f with _ | _ | _ | _ | _ | _ | f <;> rfl
theorem aW_put (a b : ActC) (f : Nat) : aW (aPut a b f) f = aW a f := by
  rcases f with _ | _ | _ | _ | _ | _ | f <;> rfl
theorem VA_put (a b : ActC) (f : Nat) : VA f (aPut a b f) ↔ VA f a := by
  rcases f with _ | _ | _ | _ | _ | _ | f <;> exact Iff.rfl
theorem aW_other (a b : ActC) {f g : Nat} (hf : f < 7) (hg : g < 7) (h : f ≠ g) : aW (aPut a b f) g = aW b g := by
  rcases f with _ | _ | _ | _ | _ | _ | f <;> rcases g with _ | _ | _ | _ | _ | _ | g <;> first | rfl | omega
theorem VA_other (a b : ActC) {f g : Nat} (hf : f < 7) (hg : g < 7) (h : f ≠ g) : VA g (aPut a b f) ↔ VA g b := by
  rcases f with _ | _ | _ | _ | _ | _ | f <;> rcases g with _ | _ | _ | _ | _ | _ | g <;> first | exact Iff.rfl | omega
theorem uniq_one {a b : Int} {r r' : List Wd} (ha : Is64 a) (hb : Is64 b) (h : [itoa a] ++ r = [itoa b] ++ r') : a = b ∧ r = r' := uniq_num a b r r' ha hb h
theorem aW_inj {a b : ActC} {f : Nat} {r r' : List Wd} (ha : VA f a) (hb : VA f b) (h : aW a f ++ r = aW b f ++ r') : (∀ d, aPut a d f = aPut b d f) ∧ r = r' := by
  rcases f with _ | _ | _ | _ | _ | _ | f
  · obtain ⟨h1, h2⟩ := uniq_one ha hb h
    exact ⟨fun d => by show ({ d with who := a.who } : ActC) = { d with who := b.who }; rw [h1], h2⟩
  · obtain ⟨h1, h2⟩ := uniq_one ha hb h
    exact ⟨fun d => by show ({ d with n := a.n } : ActC) = { d with n := b.n }; rw [h1], h2⟩
  · obtain ⟨h1, h2⟩ := uniq_one ha hb h
    exact ⟨fun d => by show ({ d with call := a.call } : ActC) = { d with call := b.call }; rw [h1], h2⟩
  · obtain ⟨h1, h2⟩ := uniq_one ha hb h
    exact ⟨fun d => by show ({ d with other := a.other } : ActC) = { d with other := b.other }; rw [h1], h2⟩
  · obtain ⟨h1, h2⟩ := uniq_one ha hb h
    exact ⟨fun d => by show ({ d with node := a.node } : ActC) = { d with node := b.node }; rw [h1], h2⟩
  · obtain ⟨h1, h2⟩ := uniq_sources _ _ _ _ ha hb h
    exact ⟨fun d => by show ({ d with srcs := a.srcs } : ActC) = { d with srcs := b.srcs }; rw [h1], h2⟩
  · obtain ⟨h1, h2⟩ := uniq_list _ _ _ _ ha hb h
    exact ⟨fun d => by show ({ d with groups := a.groups } : ActC) = { d with groups := b.groups }; rw [h1], h2⟩
def VAs (fs : List Nat) (a : ActC) : Prop := ∀ f ∈ fs, VA f a
def asW (fs : List Nat) (a : ActC) : List Wd := fs.flatMap (aW a)
theorem asW_inj {a b : ActC} : ∀ {fs : List Nat} {r r' : List Wd}, VAs fs a → VAs fs b → asW fs a ++ r = asW fs b ++ r' → (∀ f ∈ fs, ∀ d, aPut a d f = aPut b d f) ∧ r = r'
  | [], r, r', _, _, h => ⟨fun f hf => (by cases hf), h⟩
  | f :: fs, r, r', ha, hb, h => by
    unfold asW at h
    rw [List.flatMap_cons, List.flatMap_cons, List.append_assoc, List.append_assoc] at h
    obtain ⟨h1, h2⟩ := aW_inj (ha f (by simp)) (hb f (by simp)) h
    obtain ⟨h3, h4⟩ := asW_inj (fs := fs) (fun g hg => ha g (by simp [hg])) (fun g hg => hb g (by simp [hg])) h2
    refine ⟨fun g hg => ?_, h4⟩
    rcases List.mem_cons.1 hg with e | e
    · rw [e]
      exact h1
    · exact h3 g e
theorem asW_step {fs : List Nat} {a b : ActC} {f : Nat} (hf : f ∉ fs) (hl : ∀ g ∈ fs, g < 7) (hl2 : f < 7) : asW (fs ++ [f]) (aPut a b f) = asW fs b ++ aW a f := by
  unfold asW
  rw [List.flatMap_append]
  congr 1
  · rw [List.flatMap_def, List.flatMap_def]
    refine congrArg List.flatten (List.map_congr_left fun g hg => ?_)
    exact aW_other a b hl2 (hl g hg) (fun e => hf (e ▸ hg))
  · simp [aW_put]
theorem VAs_step {fs : List Nat} {a b : ActC} {f : Nat} (hf : f ∉ fs) (hl : ∀ g ∈ fs, g < 7) (hl2 : f < 7) (h : VAs fs b) (h2 : VA f a) : VAs (fs ++ [f]) (aPut a b f) := fun g hg => by
  rcases List.mem_append.1 hg with e | e
  · exact (VA_other a b hl2 (hl g e) (fun q => hf (q ▸ e))).2 (h g e)
  · rw [List.mem_singleton.1 e]
    exact (VA_put a b f).2 h2
theorem Rds.step {fs : List Nat} {a b : ActC} {f : Nat} (hf : f ∉ fs) (hl : ∀ g ∈ fs, g < 7) (hl2 : f < 7) {st st1 st2 : Option (List Wd)} (h : Rds (VAs fs) (asW fs) st st1 b) (h2 : Rds (VA f) (fun a => aW a f) st1 st2 a) : Rds (VAs (fs ++ [f])) (asW (fs ++ [f])) st st2 (aPut a b f) := by
  have snoc : ∀ c : ActC, asW (fs ++ [f]) c = asW fs c ++ aW c f := fun c => by simp [asW]
  rcases h with ⟨ws, r, e1, e2, hv, e3⟩ | ⟨e1, hn⟩
  · rcases h2 with ⟨ws2, r2, f1, f2, hv2, f3⟩ | ⟨f1, hn2⟩
    · rw [e2] at f1
      injection f1 with f1
      exact .inl ⟨ws, r2, e1, f2, VAs_step hf hl hl2 hv hv2, by rw [asW_step hf hl hl2, e3, f1, f3, List.append_assoc]⟩
    · refine .inr ⟨f1, fun ws' e c r' hc q => ?_⟩
      rw [e1] at e
      injection e with e
      rw [← e, e3, snoc, List.append_assoc] at q
      obtain ⟨_, q2⟩ := asW_inj hv (fun g hg => hc g (by simp [hg])) q
      exact hn2 r e2 c r' (hc f (by simp)) q2
  · have f1 : st2 = none := by
      rcases h2 with ⟨ws2, r2, f1, f2, _, _⟩ | ⟨f1, _⟩
      · rw [e1] at f1
        cases f1
      · exact f1
    refine .inr ⟨f1, fun ws' e c r' hc q => ?_⟩
    refine hn ws' e c (aW c f ++ r') (fun g hg => hc g (by simp [hg])) ?_
    rw [q, snoc, List.append_assoc]
theorem rds_as_start (st : Option (List Wd)) (a : ActC) : Rds (VAs []) (asW []) st st a := by
  cases st with
  | none => exact .bad
  | some ws => exact .inl ⟨ws, ws, rfl, rfl, fun f hf => (by cases hf), rfl⟩
theorem aPuts_snoc (x : ActC) (fs : List Nat) (f : Nat) (a : ActC) : aPuts x (fs ++ [f]) a = aPut x (aPuts x fs a) f := by simp [aPuts]
theorem aPuts_comm (x a : ActC) {f : Nat} (hf7 : f < 7) : ∀ (fs : List Nat), f ∉ fs → (∀ g ∈ fs, g < 7) → ∀ b : ActC, aPuts x fs (aPut a b f) = aPut a (aPuts x fs b) f
  | [], _, _, _ => rfl
  | g :: fs, hf, hl, b => by
    have h1 : aPuts x (g :: fs) (aPut a b f) = aPuts x fs (aPut x (aPut a b f) g) := rfl
    have h2 : aPuts x (g :: fs) b = aPuts x fs (aPut x b g) := rfl
    rw [h1, h2, aPut_comm x a b hf7 (hl g (by simp)) (fun e => hf (by simp [e])), aPuts_comm x a hf7 fs (fun q => hf (by simp [q])) (fun y hy => hl y (by simp [hy]))]
theorem clr_step {fs : List Nat} {a b : ActC} {f : Nat} {k : Int} (hf : f ∉ fs) (hl : ∀ g ∈ fs, g < 7) (hl2 : f < 7) (h : aClr fs b = kindA k) : aClr (fs ++ [f]) (aPut a b f) = kindA k := by
  unfold aClr at h ⊢
  rw [aPuts_snoc, aPuts_comm act0 a hl2 fs hf hl, h, aPut_same, aPut_zero]
theorem clr_inj {a b : ActC} : ∀ {fs : List Nat}, (∀ g ∈ fs, g < 7) → aClr fs a = aClr fs b → (∀ f ∈ fs, ∀ d, aPut a d f = aPut b d f) → a = b := by
  intro fs
  induction fs generalizing a b with
  | nil => intro _ h _; exact h
  | cons f fs ih =>
    intro hl h hp
    have e : aPut act0 a f = aPut act0 b f := ih (fun g hg => hl g (by simp [hg])) h (fun g hg d => by
      by_cases q : f = g
      · rw [← q, aPut_from_same, aPut_from_same]
      · rw [aPut_from _ _ _ (hl f (by simp)) (hl g (by simp [hg])) q, aPut_from _ _ _ (hl f (by simp)) (hl g (by simp [hg])) q]
        exact hp g (by simp [hg]) d)
    rw [← aPut_self a act0 f, e, hp f (by simp), aPut_self]
/-- an action that a line can say. -/
def VAct (a : ActC) : Prop := ActOk a ∧ VAs (actF a.kind) a
theorem actW_kind {a b : ActC} {r r' : List Wd} (ha : actN a.kind ≠ []) (hb : actN b.kind ≠ []) (h : actW a ++ r = actW b ++ r') : a.kind = b.kind ∧ asW (actF a.kind) a ++ r = asW (actF b.kind) b ++ r' := by
  unfold actW at h
  rw [List.cons_append, List.cons_append] at h
  injection h with h1 h2
  exact ⟨actN_inj (actN_in ha) (actN_in hb) h1, h2⟩
theorem uniq_act : Uniq VAct actW := fun a b r r' ha hb h => by
  obtain ⟨hk, h2⟩ := actW_kind ha.1.1 hb.1.1 h
  have hb2 := hb.2
  have hb3 := hb.1.2
  rw [← hk] at h2 hb2 hb3
  obtain ⟨h3, h4⟩ := asW_inj ha.2 hb2 h2
  exact ⟨clr_inj (actF_lt _) (ha.1.2.trans hb3.symm) h3, h4⟩
/-- an action was read. -/
def RdA (st st' : Option (List Wd)) (a : ActC) : Prop :=
  (∃ ws r, st = some ws ∧ st' = some r ∧ VAct a ∧ ws = actW a ++ r) ∨ ((st' = none ∨ ¬ ActOk a) ∧ ∀ ws, st = some ws → ∀ b r, VAct b → ws ≠ actW b ++ r)
theorem rdA_done {k : Int} {ws : List Wd} {st' : Option (List Wd)} {a : ActC} (hk : actN k ≠ []) (ha : a.kind = k) (hc : aClr (actF k) a = kindA k) (h : Rds (VAs (actF k)) (asW (actF k)) (some ws) st' a) : RdA (some (actN k :: ws)) st' a := by
  subst ha
  rcases h with ⟨ws', r, e1, e2, hv, e3⟩ | ⟨e1, hn⟩
  · injection e1 with e1
    exact .inl ⟨_, r, rfl, e2, ⟨⟨hk, hc⟩, hv⟩, by rw [e1, e3]; rfl⟩
  · refine .inr ⟨.inl e1, fun ws' e b r hb q => ?_⟩
    injection e with e
    rw [← e] at q
    have q : actN a.kind :: ws = actN b.kind :: (asW (actF b.kind) b ++ r) := q
    injection q with q1 q2
    have hkk := actN_inj (actN_in hk) (actN_in hb.1.1) q1
    have hb2 := hb.2
    rw [← hkk] at q2 hb2
    exact hn ws rfl b r hb2 q2
theorem rdA_none {w : Wd} {ws : List Wd} {st' : Option (List Wd)} {a : ActC} (hw : ∀ k, actN k = w → w = []) (ha : ¬ ActOk a) : RdA (some (w :: ws)) st' a := by
  refine .inr ⟨.inr ha, fun ws' e b r hb q => ?_⟩
  injection e with e
  rw [← e] at q
  have q : w :: ws = actN b.kind :: (asW (actF b.kind) b ++ r) := q
  injection q with q1 q2
  exact hb.1.1 (by rw [← q1]; exact hw _ q1.symm)
theorem rdA_empty {a : ActC} : RdA (some []) none a := by
  refine .inr ⟨.inl rfl, fun ws' e b r hb q => ?_⟩
  injection e with e
  rw [← e] at q
  cases q
theorem rdA_bad {a : ActC} : RdA none none a := .inr ⟨.inl rfl, fun ws e => by cases e⟩

theorem hexD_inj : ∀ a b : Fin 16, hexD a.val = hexD b.val → a = b := by decide
theorem hexW_inj {a b : Wd} (h : hexW a = hexW b) : a = b := by
  unfold hexW at h
  injection h with _ h
  induction a generalizing b with
  | nil =>
    cases b with
    | nil => rfl
    | cons y b => simp at h
  | cons x a ih =>
    cases b with
    | nil => simp at h
    | cons y b =>
      rw [List.flatMap_cons, List.flatMap_cons] at h
      injection h with h1 h
      injection h with h2 h
      have hx := x.toNat_lt
      have hy := y.toNat_lt
      have e1 := hexD_inj ⟨x.toNat / 16, by omega⟩ ⟨y.toNat / 16, by omega⟩ h1
      have e2 := hexD_inj ⟨x.toNat % 16, by omega⟩ ⟨y.toNat % 16, by omega⟩ h2
      injection e1 with e1
      injection e2 with e2
      have e : x = y := UInt8.toNat_inj.1 (by omega)
      rw [e, ih h]
def V5 (a b c d e : Int) : Prop := Is64 a ∧ Is64 b ∧ Is64 c ∧ Is64 d ∧ Is64 e
def VE (f : Nat) (e : EvC) : Prop := match f with
  | 0 => Is64 e.who
  | 1 => Is64 e.call
  | 2 => Is64 e.epoch
  | 3 => Is64 e.n
  | 4 => VAct e.act
  | 5 => Is64 e.eterm ∧ Is64 e.ekind
  | 6 => V5 e.ord.unit e.ord.epoch e.ord.kind e.ord.incident e.ord.node
  | _ => V5 e.sta.unit e.sta.seq e.sta.state e.sta.node e.sta.epoch
theorem ePut_same (x a b : EvC) (f : Nat) : ePut x (ePut a b f) f = ePut x b f := by
  rcases f with _ | _ | _ | _ | _ | _ | _ | f <;> rfl
theorem ePut_self (a x : EvC) (f : Nat) : ePut a (ePut x a f) f = a := by
  rcases f with _ | _ | _ | _ | _ | _ | _ | f <;> rfl
theorem ePut_comm (x a b : EvC) {f g : Nat} (hf : f < 8) (hg : g < 8) (h : f ≠ g) : ePut x (ePut a b f) g = ePut a (ePut x b g) f := by
  rcases f with _ | _ | _ | _ | _ | _ | _ | f <;> rcases g with _ | _ | _ | _ | _ | _ | _ | g <;> first | rfl | omega
theorem ePut_zero (k t : Int) (f : Nat) : ePut ev0 (kindE k t) f = kindE k t := by
  rcases f with _ | _ | _ | _ | _ | _ | _ | f <;> rfl
theorem ePut_kind (a b : EvC) (f : Nat) : (ePut a b f).kind = b.kind := by
  rcases f with _ | _ | _ | _ | _ | _ | _ | f <;> rfl
theorem ePut_tick (a b : EvC) (f : Nat) : (ePut a b f).tick = b.tick := by
  rcases f with _ | _ | _ | _ | _ | _ | _ | f <;> rfl
theorem ePut_from (x a d : EvC) {f g : Nat} (hf : f < 8) (hg : g < 8) (h : f ≠ g) : ePut (ePut x a f) d g = ePut a d g := by
  rcases f with _ | _ | _ | _ | _ | _ | _ | f <;> rcases g with _ | _ | _ | _ | _ | _ | _ | g <;> first | rfl | omega
theorem ePut_from_same (x a d : EvC) (f : Nat) : ePut (ePut x a f) d f = ePut x d f := by
  rcases f with _ | _ | _ | _ | _ | _ | _ | f <;> rfl
theorem eW_put (a b : EvC) (f : Nat) : eW (ePut a b f) f = eW a f := by
  rcases f with _ | _ | _ | _ | _ | _ | _ | f <;> rfl
theorem VE_put (a b : EvC) (f : Nat) : VE f (ePut a b f) ↔ VE f a := by
  rcases f with _ | _ | _ | _ | _ | _ | _ | f <;> exact Iff.rfl
theorem eW_other (a b : EvC) {f g : Nat} (hf : f < 8) (hg : g < 8) (h : f ≠ g) : eW (ePut a b f) g = eW b g := by
  rcases f with _ | _ | _ | _ | _ | _ | _ | f <;> rcases g with _ | _ | _ | _ | _ | _ | _ | g <;> first | rfl | omega
theorem VE_other (a b : EvC) {f g : Nat} (hf : f < 8) (hg : g < 8) (h : f ≠ g) : VE g (ePut a b f) ↔ VE g b := by
  rcases f with _ | _ | _ | _ | _ | _ | _ | f <;> rcases g with _ | _ | _ | _ | _ | _ | _ | g <;> first | exact Iff.rfl | omega
theorem five_inj {a b c d e a' b' c' d' e' : Int} {r r' : List Wd} (h : V5 a b c d e) (h' : V5 a' b' c' d' e') (q : [itoa a, itoa b, itoa c, itoa d, itoa e] ++ r = [itoa a', itoa b', itoa c', itoa d', itoa e'] ++ r') : (a = a' ∧ b = b' ∧ c = c' ∧ d = d' ∧ e = e') ∧ r = r' := by
  obtain ⟨h1, h2, h3, h4, h5⟩ := h
  obtain ⟨k1, k2, k3, k4, k5⟩ := h'
  injection q with q1 q
  injection q with q2 q
  injection q with q3 q
  injection q with q4 q
  injection q with q5 q
  exact ⟨⟨itoa_inj h1 k1 q1, itoa_inj h2 k2 q2, itoa_inj h3 k3 q3, itoa_inj h4 k4 q4, itoa_inj h5 k5 q5⟩, q⟩
theorem eW_inj {a b : EvC} {f : Nat} {r r' : List Wd} (ha : VE f a) (hb : VE f b) (h : eW a f ++ r = eW b f ++ r') : (∀ d, ePut a d f = ePut b d f) ∧ r = r' := by
  rcases f with _ | _ | _ | _ | _ | _ | _ | f
  · obtain ⟨h1, h2⟩ := uniq_one ha hb h
    exact ⟨fun d => by show ({ d with who := a.who } : EvC) = { d with who := b.who }; rw [h1], h2⟩
  · obtain ⟨h1, h2⟩ := uniq_one ha hb h
    exact ⟨fun d => by show ({ d with call := a.call } : EvC) = { d with call := b.call }; rw [h1], h2⟩
  · obtain ⟨h1, h2⟩ := uniq_one ha hb h
    exact ⟨fun d => by show ({ d with epoch := a.epoch } : EvC) = { d with epoch := b.epoch }; rw [h1], h2⟩
  · obtain ⟨h1, h2⟩ := uniq_one ha hb h
    exact ⟨fun d => by show ({ d with n := a.n } : EvC) = { d with n := b.n }; rw [h1], h2⟩
  · obtain ⟨h1, h2⟩ := uniq_act _ _ _ _ ha hb h
    exact ⟨fun d => by show ({ d with act := a.act } : EvC) = { d with act := b.act }; rw [h1], h2⟩
  · injection h with q1 h
    injection h with q2 h
    injection h with q3 h
    have e1 := itoa_inj ha.1 hb.1 q1
    have e2 := itoa_inj ha.2 hb.2 q2
    have e3 := hexW_inj q3
    exact ⟨fun d => by show ({ d with eterm := a.eterm, ekind := a.ekind, ebody := a.ebody } : EvC) = { d with eterm := b.eterm, ekind := b.ekind, ebody := b.ebody }; rw [e1, e2, e3], h⟩
  · obtain ⟨⟨h1, h2, h3, h4, h5⟩, h6⟩ := five_inj ha hb h
    have e : a.ord = b.ord := by
      cases ha' : a.ord
      cases hb' : b.ord
      rw [ha', hb'] at h1 h2 h3 h4 h5
      simp only at h1 h2 h3 h4 h5
      rw [h1, h2, h3, h4, h5]
    exact ⟨fun d => by show ({ d with ord := a.ord } : EvC) = { d with ord := b.ord }; rw [e], h6⟩
  · obtain ⟨⟨h1, h2, h3, h4, h5⟩, h6⟩ := five_inj ha hb h
    have e : a.sta = b.sta := by
      cases ha' : a.sta
      cases hb' : b.sta
      rw [ha', hb'] at h1 h2 h3 h4 h5
      simp only at h1 h2 h3 h4 h5
      rw [h1, h2, h3, h4, h5]
    exact ⟨fun d => by show ({ d with sta := a.sta } : EvC) = { d with sta := b.sta }; rw [e], h6⟩
def VEs (fs : List Nat) (a : EvC) : Prop := ∀ f ∈ fs, VE f a
def esW (fs : List Nat) (a : EvC) : List Wd := fs.flatMap (eW a)
theorem esW_inj {a b : EvC} : ∀ {fs : List Nat} {r r' : List Wd}, VEs fs a → VEs fs b → esW fs a ++ r = esW fs b ++ r' → (∀ f ∈ fs, ∀ d, ePut a d f = ePut b d f) ∧ r = r'
  | [], r, r', _, _, h => ⟨fun f hf => (by cases hf), h⟩
  | f :: fs, r, r', ha, hb, h => by
    unfold esW at h
    rw [List.flatMap_cons, List.flatMap_cons, List.append_assoc, List.append_assoc] at h
    obtain ⟨h1, h2⟩ := eW_inj (ha f (by simp)) (hb f (by simp)) h
    obtain ⟨h3, h4⟩ := esW_inj (fs := fs) (fun g hg => ha g (by simp [hg])) (fun g hg => hb g (by simp [hg])) h2
    refine ⟨fun g hg => ?_, h4⟩
    rcases List.mem_cons.1 hg with e | e
    · rw [e]
      exact h1
    · exact h3 g e
theorem esW_step {fs : List Nat} {a b : EvC} {f : Nat} (hf : f ∉ fs) (hl : ∀ g ∈ fs, g < 8) (hl2 : f < 8) : esW (fs ++ [f]) (ePut a b f) = esW fs b ++ eW a f := by
  unfold esW
  rw [List.flatMap_append]
  congr 1
  · rw [List.flatMap_def, List.flatMap_def]
    refine congrArg List.flatten (List.map_congr_left fun g hg => ?_)
    exact eW_other a b hl2 (hl g hg) (fun e => hf (e ▸ hg))
  · simp [eW_put]
theorem VEs_step {fs : List Nat} {a b : EvC} {f : Nat} (hf : f ∉ fs) (hl : ∀ g ∈ fs, g < 8) (hl2 : f < 8) (h : VEs fs b) (h2 : VE f a) : VEs (fs ++ [f]) (ePut a b f) := fun g hg => by
  rcases List.mem_append.1 hg with e | e
  · exact (VE_other a b hl2 (hl g e) (fun q => hf (q ▸ e))).2 (h g e)
  · rw [List.mem_singleton.1 e]
    exact (VE_put a b f).2 h2
/-- fields of an event were read. -/
def RdEs (fs : List Nat) (st st' : Option (List Wd)) (e : EvC) : Prop :=
  (∃ ws r, st = some ws ∧ st' = some r ∧ VEs fs e ∧ ws = esW fs e ++ r) ∨ ((st' = none ∨ (4 ∈ fs ∧ ¬ ActOk e.act)) ∧ ∀ ws, st = some ws → ∀ b r, VEs fs b → ws ≠ esW fs b ++ r)
/-- a field of an event was read. -/
def RdEf (f : Nat) (st st' : Option (List Wd)) (e : EvC) : Prop :=
  (∃ ws r, st = some ws ∧ st' = some r ∧ VE f e ∧ ws = eW e f ++ r) ∨ ((st' = none ∨ (4 = f ∧ ¬ ActOk e.act)) ∧ ∀ ws, st = some ws → ∀ b r, VE f b → ws ≠ eW b f ++ r)
theorem Rds.ef {f : Nat} {st st' : Option (List Wd)} {e : EvC} (h : Rds (VE f) (fun e => eW e f) st st' e) : RdEf f st st' e := by
  rcases h with h | ⟨h1, h2⟩
  · exact .inl h
  · exact .inr ⟨.inl h1, h2⟩
theorem RdA.ef {st st' : Option (List Wd)} {e : EvC} (h : RdA st st' e.act) : RdEf 4 st st' e := by
  rcases h with h | ⟨h1, h2⟩
  · exact .inl h
  · refine .inr ⟨?_, fun ws q b r hb => h2 ws q b.act r hb⟩
    rcases h1 with h1 | h1
    · exact .inl h1
    · exact .inr ⟨rfl, h1⟩
theorem rdEs_start (st : Option (List Wd)) (a : EvC) : RdEs [] st st a := by
  cases st with
  | none => exact .inr ⟨.inl rfl, fun ws h => by cases h⟩
  | some ws => exact .inl ⟨ws, ws, rfl, rfl, fun f hf => (by cases hf), rfl⟩
theorem act_other {a b : EvC} {f : Nat} (h : f < 8) (hf : f ≠ 4) : (ePut a b f).act = b.act := by
  rcases f with _ | _ | _ | _ | _ | _ | _ | f <;> first | rfl | omega
theorem RdEs.step {fs : List Nat} {a b : EvC} {f : Nat} (hf : f ∉ fs) (hl : ∀ g ∈ fs, g < 8) (hl2 : f < 8) {st st1 st2 : Option (List Wd)} (h : RdEs fs st st1 b) (h2 : RdEf f st1 st2 a) (hmon : st1 = none → st2 = none) : RdEs (fs ++ [f]) st st2 (ePut a b f) := by
  have snoc : ∀ c : EvC, esW (fs ++ [f]) c = esW fs c ++ eW c f := fun c => by simp [esW]
  rcases h with ⟨ws, r, e1, e2, hv, e3⟩ | ⟨e1, hn⟩
  · rcases h2 with ⟨ws2, r2, f1, f2, hv2, f3⟩ | ⟨f1, hn2⟩
    · rw [e2] at f1
      injection f1 with f1
      exact .inl ⟨ws, r2, e1, f2, VEs_step hf hl hl2 hv hv2, by rw [esW_step hf hl hl2, e3, f1, f3, List.append_assoc]⟩
    · refine .inr ⟨?_, fun ws' e c r' hc q => ?_⟩
      · rcases f1 with f1 | ⟨f1, f2⟩
        · exact .inl f1
        · refine .inr ⟨by rw [f1]; simp, ?_⟩
          rw [← f1]
          exact f2
      rw [e1] at e
      injection e with e
      rw [← e, e3, snoc, List.append_assoc] at q
      obtain ⟨_, q2⟩ := esW_inj hv (fun g hg => hc g (by simp [hg])) q
      exact hn2 r e2 c r' (hc f (by simp)) q2
  · refine .inr ⟨?_, fun ws' e c r' hc q => ?_⟩
    · rcases e1 with e1 | ⟨e1, e2⟩
      · exact .inl (hmon e1)
      · refine .inr ⟨by simp [e1], ?_⟩
        rw [act_other hl2 (fun q => hf (q ▸ e1))]
        exact e2
    refine hn ws' e c (eW c f ++ r') (fun g hg => hc g (by simp [hg])) ?_
    rw [q, snoc, List.append_assoc]
theorem ePuts_snoc (x : EvC) (fs : List Nat) (f : Nat) (a : EvC) : ePuts x (fs ++ [f]) a = ePut x (ePuts x fs a) f := by simp [ePuts]
theorem ePuts_comm (x a : EvC) {f : Nat} (hf7 : f < 8) : ∀ (fs : List Nat), f ∉ fs → (∀ g ∈ fs, g < 8) → ∀ b : EvC, ePuts x fs (ePut a b f) = ePut a (ePuts x fs b) f
  | [], _, _, _ => rfl
  | g :: fs, hf, hl, b => by
    have h1 : ePuts x (g :: fs) (ePut a b f) = ePuts x fs (ePut x (ePut a b f) g) := rfl
    have h2 : ePuts x (g :: fs) b = ePuts x fs (ePut x b g) := rfl
    rw [h1, h2, ePut_comm x a b hf7 (hl g (by simp)) (fun e => hf (by simp [e])), ePuts_comm x a hf7 fs (fun q => hf (by simp [q])) (fun y hy => hl y (by simp [hy]))]
theorem eclr_step {fs : List Nat} {a b : EvC} {f : Nat} {k t : Int} (hf : f ∉ fs) (hl : ∀ g ∈ fs, g < 8) (hl2 : f < 8) (h : eClr fs b = kindE k t) : eClr (fs ++ [f]) (ePut a b f) = kindE k t := by
  unfold eClr at h ⊢
  rw [ePuts_snoc, ePuts_comm ev0 a hl2 fs hf hl, h, ePut_same, ePut_zero]
theorem eclr_inj {a b : EvC} : ∀ {fs : List Nat}, (∀ g ∈ fs, g < 8) → eClr fs a = eClr fs b → (∀ f ∈ fs, ∀ d, ePut a d f = ePut b d f) → a = b := by
  intro fs
  induction fs generalizing a b with
  | nil => intro _ h _; exact h
  | cons f fs ih =>
    intro hl h hp
    have e : ePut ev0 a f = ePut ev0 b f := ih (fun g hg => hl g (by simp [hg])) h (fun g hg d => by
      by_cases q : f = g
      · rw [← q, ePut_from_same, ePut_from_same]
      · rw [ePut_from _ _ _ (hl f (by simp)) (hl g (by simp [hg])) q, ePut_from _ _ _ (hl f (by simp)) (hl g (by simp [hg])) q]
        exact hp g (by simp [hg]) d)
    rw [← ePut_self a ev0 f, e, hp f (by simp), ePut_self]
/-- an event that a line can say (its tick may be out of range). -/
def VEv (e : EvC) : Prop := (evN e.kind ≠ [] ∧ Is64 e.tick ∧ eClr (evF e.kind) e = kindE e.kind e.tick) ∧ VEs (evF e.kind) e
theorem uniq_ev : Uniq VEv evW := fun a b r r' ha hb h => by
  unfold evW at h
  rw [List.cons_append, List.cons_append, List.cons_append, List.cons_append] at h
  injection h with h0 h
  injection h with h1 h2
  have ht := itoa_inj ha.1.2.1 hb.1.2.1 h0
  have hk := evN_inj (evN_in ha.1.1) (evN_in hb.1.1) h1
  have hb2 := hb.2
  have hb3 := hb.1.2.2
  rw [← hk] at h2 hb2 hb3
  rw [← ht] at hb3
  obtain ⟨h3, h4⟩ := esW_inj (fs := evF a.kind) ha.2 hb2 h2
  exact ⟨eclr_inj (evF_lt _) (ha.1.2.2.trans hb3.symm) h3, h4⟩
theorem EvOk.iff {e : EvC} (h : VEv e) : EvOk e ↔ 0 ≤ e.tick ∧ e.tick ≤ 1099511627776 := by
  refine ⟨fun q => q.2.1, fun q => ⟨h.1.1, q, fun h4 => ?_, h.1.2.2⟩⟩
  have := h.2 4 h4
  exact this.1
/-- an event was read. -/
def RdE (st st' : Option (List Wd)) (e : EvC) : Prop :=
  (∃ ws r, st = some ws ∧ st' = some r ∧ VEv e ∧ ws = evW e ++ r) ∨ ((st' = none ∨ ¬ EvOk e) ∧ ∀ ws, st = some ws → ∀ b r, VEv b → ws ≠ evW b ++ r)
theorem rdE_done {k t : Int} {ws : List Wd} {st' : Option (List Wd)} {e : EvC} (hk : evN k ≠ []) (ht : Is64 t) (he : e.kind = k) (het : e.tick = t) (hc : eClr (evF k) e = kindE k t) (h : RdEs (evF k) (some ws) st' e) : RdE (some (itoa t :: evN k :: ws)) st' e := by
  subst he het
  rcases h with ⟨ws', r, e1, e2, hv, e3⟩ | ⟨e1, hn⟩
  · injection e1 with e1
    exact .inl ⟨_, r, rfl, e2, ⟨⟨hk, ht, hc⟩, hv⟩, by rw [e1, e3]; rfl⟩
  · refine .inr ⟨?_, fun ws' q b r hb q => ?_⟩
    · rcases e1 with e1 | ⟨e1, e2⟩
      · exact .inl e1
      · exact .inr (fun q => e2 (q.2.2.1 e1))
    rename_i q0
    injection q0 with q0
    rw [← q0] at q
    have q : itoa e.tick :: evN e.kind :: ws = itoa b.tick :: evN b.kind :: (esW (evF b.kind) b ++ r) := q
    injection q with _ q
    injection q with q1 q2
    have hkk := evN_inj (evN_in hk) (evN_in hb.1.1) q1
    have hb2 := hb.2
    rw [← hkk] at q2 hb2
    exact hn ws rfl b r hb2 q2
theorem rdE_none {n w : Wd} {ws : List Wd} {st' : Option (List Wd)} {e : EvC} (hw : ∀ k, evN k = w → w = []) (ha : ¬ EvOk e) : RdE (some (n :: w :: ws)) st' e := by
  refine .inr ⟨.inr ha, fun ws' q0 b r hb q => ?_⟩
  injection q0 with q0
  rw [← q0] at q
  have q : n :: w :: ws = itoa b.tick :: evN b.kind :: (esW (evF b.kind) b ++ r) := q
  injection q with _ q
  injection q with q1 q2
  exact hb.1.1 (by rw [← q1]; exact hw _ q1.symm)
theorem rdE_short {ws : List Wd} {e : EvC} (h : ws.length < 2) : RdE (some ws) none e := by
  refine .inr ⟨.inl rfl, fun ws' q0 b r hb q => ?_⟩
  injection q0 with q0
  rw [← q0] at q
  rw [q] at h
  simp [evW] at h
  omega
theorem rdE_tick {w : Wd} {ws : List Wd} {e : EvC} (h : canon w = none) : RdE (some (w :: ws)) none e := by
  refine .inr ⟨.inl rfl, fun ws' q0 b r hb q => ?_⟩
  injection q0 with q0
  rw [← q0] at q
  injection q with q1 _
  rw [q1, canon_itoa hb.1.2.1] at h
  cases h
/-- words without blanks. -/
theorem listW_no {c : UInt8} (hc : c.toNat < 45) (l : List Int) : ∀ w ∈ listW l, c ∉ w := fun w hw => by
  unfold listW at hw
  rcases List.mem_cons.1 hw with e | e
  · rw [e]
    exact itoa_no hc _
  · obtain ⟨v, _, rfl⟩ := List.mem_map.1 e
    exact itoa_no hc _
theorem aW_no {c : UInt8} (hc : c.toNat < 45) (a : ActC) (f : Nat) : ∀ w ∈ aW a f, c ∉ w := fun w hw => by
  have one : ∀ v : Int, w ∈ [itoa v] → c ∉ w := fun v h => by
    rw [List.mem_singleton.1 h]
    exact itoa_no hc _
  rcases f with _ | _ | _ | _ | _ | _ | f
  · exact one _ hw
  · exact one _ hw
  · exact one _ hw
  · exact one _ hw
  · exact one _ hw
  · rcases List.mem_cons.1 hw with e | e
    · rw [e]
      exact itoa_no hc _
    · obtain ⟨s, _, hs⟩ := List.mem_flatMap.1 e
      rcases List.mem_cons.1 hs with e | e
      · rw [e]
        exact itoa_no hc _
      · exact listW_no hc _ w e
  · exact listW_no hc _ w hw
theorem actW_no (a : ActC) : ∀ w ∈ actW a, (32 : UInt8) ∉ w := fun w hw => by
  rcases List.mem_cons.1 hw with e | e
  · rw [e]
    exact actN_no
  · obtain ⟨f, _, hf⟩ := List.mem_flatMap.1 e
    exact aW_no (by decide) a f w hf
theorem actW_no10 (a : ActC) : ∀ w ∈ actW a, (10 : UInt8) ∉ w := fun w hw => by
  rcases List.mem_cons.1 hw with e | e
  · rw [e]
    exact actN_no10
  · obtain ⟨f, _, hf⟩ := List.mem_flatMap.1 e
    exact aW_no (by decide) a f w hf
theorem hexD_chr : ∀ a : Fin 16, 45 ≤ (hexD a.val).toNat := by decide
theorem hexW_no {c : UInt8} (hc : c.toNat < 45) (b : Wd) : c ∉ hexW b := fun h => by
  unfold hexW at h
  rcases List.mem_cons.1 h with e | e
  · rw [e] at hc
    exact absurd hc (by decide)
  · obtain ⟨x, _, hx⟩ := List.mem_flatMap.1 e
    have hx8 := x.toNat_lt
    rcases List.mem_cons.1 hx with e | e
    · have := hexD_chr ⟨x.toNat / 16, by omega⟩
      rw [e] at hc
      simp only at this
      omega
    · have := hexD_chr ⟨x.toNat % 16, by omega⟩
      rw [List.mem_singleton.1 e] at hc
      simp only at this
      omega
theorem eW_no {c : UInt8} (hc : c.toNat < 45) (hn : ∀ k, c ∉ actN k) (a : EvC) (f : Nat) : ∀ w ∈ eW a f, c ∉ w := fun w hw => by
  have one : ∀ v : Int, w = itoa v → c ∉ w := fun v h => by
    rw [h]
    exact itoa_no hc _
  have ones : ∀ l : List Int, w ∈ l.map itoa → c ∉ w := fun l h => by
    obtain ⟨v, _, rfl⟩ := List.mem_map.1 h
    exact itoa_no hc _
  rcases f with _ | _ | _ | _ | _ | _ | _ | f
  · exact ones [_] hw
  · exact ones [_] hw
  · exact ones [_] hw
  · exact ones [_] hw
  · rcases List.mem_cons.1 hw with e | e
    · rw [e]
      exact hn _
    · obtain ⟨f, _, hf⟩ := List.mem_flatMap.1 e
      exact aW_no hc _ f w hf
  · rcases List.mem_cons.1 hw with e | e
    · exact one _ e
    rcases List.mem_cons.1 e with e | e
    · exact one _ e
    rw [List.mem_singleton.1 e]
    exact hexW_no hc _
  · exact ones [_, _, _, _, _] hw
  · exact ones [_, _, _, _, _] hw
theorem evW_no (e : EvC) : ∀ w ∈ evW e, (32 : UInt8) ∉ w := fun w hw => by
  rcases List.mem_cons.1 hw with q | q
  · rw [q]
    exact itoa_no (by decide) _
  rcases List.mem_cons.1 q with q | q
  · rw [q]
    exact evN_no
  · obtain ⟨f, _, hf⟩ := List.mem_flatMap.1 q
    exact eW_no (by decide) (fun _ => actN_no) e f w hf
theorem evW_no10 (e : EvC) : ∀ w ∈ evW e, (10 : UInt8) ∉ w := fun w hw => by
  rcases List.mem_cons.1 hw with q | q
  · rw [q]
    exact itoa_no (by decide) _
  rcases List.mem_cons.1 q with q | q
  · rw [q]
    exact evN_no10
  · obtain ⟨f, _, hf⟩ := List.mem_flatMap.1 q
    exact eW_no (by decide) (fun _ => actN_no10) e f w hf
theorem lineW_no10 {ws : List Wd} (h : ∀ w ∈ ws, (10 : UInt8) ∉ w) : (10 : UInt8) ∉ lineW ws := by
  cases ws with
  | nil => intro q; cases q
  | cons w r =>
    intro q
    rcases List.mem_append.1 q with e | e
    · exact h w (by simp) e
    · obtain ⟨x, hx, e⟩ := List.mem_flatMap.1 e
      rcases List.mem_cons.1 e with e | e
      · cases e
      · exact h x (by simp [hx]) e
theorem evT_inj {a b : EvC} (ha : VEv a) (hb : VEv b) (h : evT a = evT b) : a = b := by
  have h1 := line_inj (by simp [evW]) (by simp [evW]) (evW_no a) (evW_no b) h
  exact (uniq_ev a b [] [] ha hb (by rw [h1])).1
theorem actT_inj {a b : ActC} (ha : VAct a) (hb : VAct b) (h : actT a = actT b) : a = b := by
  have h1 := line_inj (by simp [actW]) (by simp [actW]) (actW_no a) (actW_no b) h
  exact (uniq_act a b [] [] ha hb (by rw [h1])).1
/-- what ParseAction decides. -/
theorem act_take {l : Wd} {st' : Option (List Wd)} {a : ActC} (h : RdA (some (wordsL l)) st' a) (hf : st' = some []) (hok : ActOk a) : VAct a ∧ l = actT a := by
  rcases h with ⟨ws, r, e1, e2, hv, e3⟩ | ⟨h1, _⟩
  · rw [hf] at e2
    injection e1 with e1
    injection e2 with e2
    refine ⟨hv, ?_⟩
    rw [← line_words l, e1, e3, ← e2, List.append_nil]
    rfl
  · rcases h1 with h1 | h1
    · rw [hf] at h1
      cases h1
    · exact absurd hok h1
theorem act_leave {l : Wd} {st' : Option (List Wd)} {a : ActC} (h : RdA (some (wordsL l)) st' a) (hf : ¬ (st' = some [] ∧ ActOk a)) (b : ActC) (hb : VAct b) : l ≠ actT b := fun q => by
  have hw : wordsL l = actW b ++ [] := by rw [q, List.append_nil]; exact words_line _ (by simp [actW]) (actW_no b)
  rcases h with ⟨ws, r, e1, e2, hv, e3⟩ | ⟨_, h2⟩
  · injection e1 with e1
    rw [← e1, hw] at e3
    obtain ⟨h1, h2⟩ := uniq_act _ _ _ _ hb hv e3
    exact hf ⟨by rw [e2, ← h2], hv.1⟩
  · exact h2 _ rfl b [] hb hw
theorem ev_take {l : Wd} {st' : Option (List Wd)} {e : EvC} (h : RdE (some (wordsL l)) st' e) (hf : st' = some []) (hok : EvOk e) : VEv e ∧ l = evT e := by
  rcases h with ⟨ws, r, e1, e2, hv, e3⟩ | ⟨h1, _⟩
  · rw [hf] at e2
    injection e1 with e1
    injection e2 with e2
    refine ⟨hv, ?_⟩
    rw [← line_words l, e1, e3, ← e2, List.append_nil]
    rfl
  · rcases h1 with h1 | h1
    · rw [hf] at h1
      cases h1
    · exact absurd hok h1
theorem ev_leave {l : Wd} {st' : Option (List Wd)} {e : EvC} (h : RdE (some (wordsL l)) st' e) (hf : ¬ (st' = some [] ∧ EvOk e)) (b : EvC) (hb : VEv b) (hbo : EvOk b) : l ≠ evT b := fun q => by
  have hw : wordsL l = evW b ++ [] := by rw [q, List.append_nil]; exact words_line _ (by simp [evW]) (evW_no b)
  rcases h with ⟨ws, r, e1, e2, hv, e3⟩ | ⟨_, h2⟩
  · injection e1 with e1
    rw [← e1, hw] at e3
    obtain ⟨h1, h2⟩ := uniq_ev _ _ _ _ hb hv e3
    exact hf ⟨by rw [e2, ← h2], h1 ▸ hbo⟩
  · exact h2 _ rfl b [] hb hw
end Go.Proofs.YtakdkiggaalimaaGreatDoor
