/-
  Actions and events of a trace in plain Lean: their fields, their words, which are valid.
-/
import Derived.Test.YtakdkiggaalimaaGreatDoorTrW
namespace Go.Proofs.YtakdkiggaalimaaGreatDoor
open Go.Lib

structure SrcC where
  kind : Int
  nodes : List Int
structure ActC where
  kind : Int
  who : Int
  n : Int
  call : Int
  other : Int
  node : Int
  srcs : List SrcC
  groups : List Int
structure OrdC where
  unit : Int
  epoch : Int
  kind : Int
  incident : Int
  node : Int
structure StaC where
  unit : Int
  seq : Int
  state : Int
  node : Int
  epoch : Int
structure EvC where
  kind : Int
  tick : Int
  who : Int
  call : Int
  epoch : Int
  n : Int
  eterm : Int
  ekind : Int
  ebody : Wd
  ord : OrdC
  sta : StaC
  act : ActC
  bytes : Wd
def act0 : ActC := ⟨0, 0, 0, 0, 0, 0, [], []⟩
def ord0 : OrdC := ⟨0, 0, 0, 0, 0⟩
def sta0 : StaC := ⟨0, 0, 0, 0, 0⟩
def ev0 : EvC := ⟨0, 0, 0, 0, 0, 0, 0, 0, [], ord0, sta0, act0, []⟩

/-- names of the kinds of actions from 1 on. -/
def actNames : List Wd := [[100, 105, 97, 108], [97, 110, 115, 119, 101, 114], [104, 97, 110, 103, 117, 112], [116, 105, 99, 107], [100, 101, 108, 105, 118, 101, 114], [100, 114, 111, 112], [100, 117, 112, 108, 105, 99, 97, 116, 101], [112, 97, 114, 116, 105, 116, 105, 111, 110], [104, 101, 97, 108], [99, 114, 97, 115, 104], [114, 101, 115, 116, 97, 114, 116], [112, 114, 111, 99, 101, 101, 100], [116, 111, 103, 103, 108, 101], [116, 114, 97, 118, 101, 108, 116, 105, 109, 101], [109, 101, 114, 103, 101], [115, 112, 108, 105, 116], [99, 108, 111, 115, 101], [115, 116, 97, 110, 100, 100, 111, 119, 110], [114, 101, 108, 111, 99, 97, 116, 101]]
/-- who 0, n 1, call 2, other 3, node 4, sources 5, groups 6. -/
def actFs : List (List Nat) := [[4, 5], [2, 1], [2], [], [1], [1], [1], [6], [], [0, 1], [0], [0], [0], [0, 2, 1], [0, 2, 3], [0, 2, 3], [0, 2], [0, 1], [0, 1, 4]]
def evNames : List Wd := [[97, 99, 116, 105, 111, 110], [100, 105, 97, 108], [111, 119, 110, 101, 114], [97, 110, 115, 119, 101, 114], [104, 97, 110, 103, 117, 112], [99, 108, 111, 115, 101, 100], [97, 112, 112, 108, 105, 101, 100], [111, 114, 100, 101, 114], [115, 116, 97, 116, 117, 115], [100, 111, 119, 110], [117, 112], [97, 99, 116, 105, 118, 101], [114, 101, 99, 111, 114, 100]]
/-- who 0, call 1, epoch 2, n 3, action 4, entry 5, order 6, status 7. -/
def evFs : List (List Nat) := [[4], [1, 0], [1, 0, 2], [1, 3], [1], [1, 0, 2], [0, 3, 5], [0, 6], [0, 7], [0], [0], [0, 3, 2], [0, 3]]
def tabN (t : List Wd) (k : Int) : Wd := if 1 ≤ k then (t[(k - 1).toNat]?).getD [] else []
def tabF (t : List (List Nat)) (k : Int) : List Nat := if 1 ≤ k then (t[(k - 1).toNat]?).getD [] else []
def actN (k : Int) : Wd := tabN actNames k
def actF (k : Int) : List Nat := tabF actFs k
def evN (k : Int) : Wd := tabN evNames k
def evF (k : Int) : List Nat := tabF evFs k

theorem tabN_out {t : List Wd} {k : Int} (h : k < 1 ∨ t.length < k) : tabN t k = [] := by
  unfold tabN
  split
  · rw [List.getElem?_eq_none (by omega)]
    rfl
  · rfl
theorem tabF_out {t : List (List Nat)} {k : Int} (h : k < 1 ∨ t.length < k) : tabF t k = [] := by
  unfold tabF
  split
  · rw [List.getElem?_eq_none (by omega)]
    rfl
  · rfl
theorem tabN_at {t : List Wd} {i : Nat} {x : Wd} (h : t[i]? = some x) {k : Int} (hk : k = i + 1) : tabN t k = x := by
  subst hk
  unfold tabN
  rw [if_pos (by omega), show ((i : Int) + 1 - 1).toNat = i by omega, h]
  rfl
theorem actN_in {k : Int} (h : actN k ≠ []) : 1 ≤ k ∧ k ≤ 19 := by
  rcases Int.lt_or_le k 1 with q | q
  · exact absurd (tabN_out (.inl q)) h
  · rcases Int.lt_or_le 19 k with q2 | q2
    · exact absurd (tabN_out (.inr (by simpa [actNames] using q2))) h
    · exact ⟨q, q2⟩
theorem evN_in {k : Int} (h : evN k ≠ []) : 1 ≤ k ∧ k ≤ 13 := by
  rcases Int.lt_or_le k 1 with q | q
  · exact absurd (tabN_out (.inl q)) h
  · rcases Int.lt_or_le 13 k with q2 | q2
    · exact absurd (tabN_out (.inr (by simpa [evNames] using q2))) h
    · exact ⟨q, q2⟩
theorem int_19 {P : Int → Prop} (h : ∀ i : Fin 19, P (i.val + 1)) {k : Int} (h1 : 1 ≤ k) (h2 : k ≤ 19) : P k := by
  have := h ⟨(k - 1).toNat, by omega⟩
  have e : (((k - 1).toNat : Nat) : Int) + 1 = k := by omega
  rwa [← e]
theorem int_13 {P : Int → Prop} (h : ∀ i : Fin 13, P (i.val + 1)) {k : Int} (h1 : 1 ≤ k) (h2 : k ≤ 13) : P k := by
  have := h ⟨(k - 1).toNat, by omega⟩
  have e : (((k - 1).toNat : Nat) : Int) + 1 = k := by omega
  rwa [← e]
theorem actN_ne {k : Int} (h1 : 1 ≤ k) (h2 : k ≤ 19) : actN k ≠ [] := int_19 (P := fun k => actN k ≠ []) (by decide) h1 h2
theorem evN_ne {k : Int} (h1 : 1 ≤ k) (h2 : k ≤ 13) : evN k ≠ [] := int_13 (P := fun k => evN k ≠ []) (by decide) h1 h2
theorem actN_no {k : Int} : (32 : UInt8) ∉ actN k := by
  by_cases h : actN k = []
  · rw [h]
    simp
  · obtain ⟨h1, h2⟩ := actN_in h
    exact int_19 (P := fun k => (32 : UInt8) ∉ actN k) (by decide) h1 h2
theorem evN_no {k : Int} : (32 : UInt8) ∉ evN k := by
  by_cases h : evN k = []
  · rw [h]
    simp
  · obtain ⟨h1, h2⟩ := evN_in h
    exact int_13 (P := fun k => (32 : UInt8) ∉ evN k) (by decide) h1 h2
theorem actN_no10 {k : Int} : (10 : UInt8) ∉ actN k := by
  by_cases h : actN k = []
  · rw [h]
    simp
  · obtain ⟨h1, h2⟩ := actN_in h
    exact int_19 (P := fun k => (10 : UInt8) ∉ actN k) (by decide) h1 h2
theorem evN_no10 {k : Int} : (10 : UInt8) ∉ evN k := by
  by_cases h : evN k = []
  · rw [h]
    simp
  · obtain ⟨h1, h2⟩ := evN_in h
    exact int_13 (P := fun k => (10 : UInt8) ∉ evN k) (by decide) h1 h2
theorem actN_fin : ∀ i j : Fin 19, actN (i.val + 1) = actN (j.val + 1) → i = j := by decide
theorem evN_fin : ∀ i j : Fin 13, evN (i.val + 1) = evN (j.val + 1) → i = j := by decide
theorem actN_inj {a b : Int} (ha : 1 ≤ a ∧ a ≤ 19) (hb : 1 ≤ b ∧ b ≤ 19) (h : actN a = actN b) : a = b := by
  have h1 := actN_fin ⟨(a - 1).toNat, by omega⟩ ⟨(b - 1).toNat, by omega⟩ (by
    show actN (((a - 1).toNat : Nat) + 1) = actN (((b - 1).toNat : Nat) + 1)
    rw [show (((a - 1).toNat : Nat) : Int) + 1 = a by omega, show (((b - 1).toNat : Nat) : Int) + 1 = b by omega, h])
  injection h1 with h1
  omega
theorem evN_inj {a b : Int} (ha : 1 ≤ a ∧ a ≤ 13) (hb : 1 ≤ b ∧ b ≤ 13) (h : evN a = evN b) : a = b := by
  have h1 := evN_fin ⟨(a - 1).toNat, by omega⟩ ⟨(b - 1).toNat, by omega⟩ (by
    show evN (((a - 1).toNat : Nat) + 1) = evN (((b - 1).toNat : Nat) + 1)
    rw [show (((a - 1).toNat : Nat) : Int) + 1 = a by omega, show (((b - 1).toNat : Nat) : Int) + 1 = b by omega, h])
  injection h1 with h1
  omega
theorem actF_lt (k : Int) : ∀ f ∈ actF k, f < 7 := by
  by_cases h : 1 ≤ k ∧ k ≤ 19
  · exact int_19 (P := fun k => ∀ f ∈ actF k, f < 7) (by decide) h.1 h.2
  · rw [show actF k = [] from tabF_out (by simp [actFs]; omega)]
    intro f hf
    cases hf
theorem evF_lt (k : Int) : ∀ f ∈ evF k, f < 8 := by
  by_cases h : 1 ≤ k ∧ k ≤ 13
  · exact int_13 (P := fun k => ∀ f ∈ evF k, f < 8) (by decide) h.1 h.2
  · rw [show evF k = [] from tabF_out (by simp [evFs]; omega)]
    intro f hf
    cases hf
theorem actF_len (k : Int) : (actF k).length ≤ 3 := by
  by_cases h : 1 ≤ k ∧ k ≤ 19
  · exact int_19 (P := fun k => (actF k).length ≤ 3) (by decide) h.1 h.2
  · rw [show actF k = [] from tabF_out (by simp [actFs]; omega)]
    simp
theorem evF_len (k : Int) : (evF k).length ≤ 3 := by
  by_cases h : 1 ≤ k ∧ k ≤ 13
  · exact int_13 (P := fun k => (evF k).length ≤ 3) (by decide) h.1 h.2
  · rw [show evF k = [] from tabF_out (by simp [evFs]; omega)]
    simp
theorem actF_nodup (k : Int) : (actF k).Nodup := by
  by_cases h : 1 ≤ k ∧ k ≤ 19
  · exact int_19 (P := fun k => (actF k).Nodup) (by decide) h.1 h.2
  · rw [show actF k = [] from tabF_out (by simp [actFs]; omega)]
    exact List.nodup_nil
theorem evF_nodup (k : Int) : (evF k).Nodup := by
  by_cases h : 1 ≤ k ∧ k ≤ 13
  · exact int_13 (P := fun k => (evF k).Nodup) (by decide) h.1 h.2
  · rw [show evF k = [] from tabF_out (by simp [evFs]; omega)]
    exact List.nodup_nil

def listW (l : List Int) : List Wd := itoa l.length :: l.map itoa
def srcW (s : SrcC) : List Wd := itoa s.kind :: listW s.nodes
def hexD (d : Nat) : UInt8 := if d < 10 then UInt8.ofNat (48 + d) else UInt8.ofNat (87 + d)
def hexW (b : Wd) : Wd := 61 :: b.flatMap (fun x => [hexD (x.toNat / 16), hexD (x.toNat % 16)])
/-- the words of a field of an action. -/
def aW (a : ActC) : Nat → List Wd
  | 0 => [itoa a.who]
  | 1 => [itoa a.n]
  | 2 => [itoa a.call]
  | 3 => [itoa a.other]
  | 4 => [itoa a.node]
  | 5 => itoa a.srcs.length :: a.srcs.flatMap srcW
  | _ => listW a.groups
/-- an action with a field taken from another one. -/
def aPut (a b : ActC) : Nat → ActC
  | 0 => { b with who := a.who }
  | 1 => { b with n := a.n }
  | 2 => { b with call := a.call }
  | 3 => { b with other := a.other }
  | 4 => { b with node := a.node }
  | 5 => { b with srcs := a.srcs }
  | _ => { b with groups := a.groups }
def kindA (k : Int) : ActC := { act0 with kind := k }
/-- a with the fields fs taken from b. -/
def aPuts (b : ActC) (fs : List Nat) (a : ActC) : ActC := fs.foldl (fun x f => aPut b x f) a
/-- an action without the fields fs. -/
def aClr (fs : List Nat) (a : ActC) : ActC := aPuts act0 fs a
def actW (a : ActC) : List Wd := actN a.kind :: (actF a.kind).flatMap (aW a)
def ActOk (a : ActC) : Prop := actN a.kind ≠ [] ∧ aClr (actF a.kind) a = kindA a.kind
/-- the numbers are int64, the lists are no longer than that. -/
structure ActR (a : ActC) : Prop where
  kind : Is64 a.kind
  who : Is64 a.who
  n : Is64 a.n
  call : Is64 a.call
  other : Is64 a.other
  node : Is64 a.node
  slen : a.srcs.length ≤ 1099511627776
  srcs : ∀ s ∈ a.srcs, Is64 s.kind ∧ s.nodes.length ≤ 1099511627776 ∧ ∀ v ∈ s.nodes, Is64 v
  glen : a.groups.length ≤ 1099511627776
  groups : ∀ v ∈ a.groups, Is64 v
def eW (e : EvC) : Nat → List Wd
  | 0 => [itoa e.who]
  | 1 => [itoa e.call]
  | 2 => [itoa e.epoch]
  | 3 => [itoa e.n]
  | 4 => actW e.act
  | 5 => [itoa e.eterm, itoa e.ekind, hexW e.ebody]
  | 6 => [itoa e.ord.unit, itoa e.ord.epoch, itoa e.ord.kind, itoa e.ord.incident, itoa e.ord.node]
  | _ => [itoa e.sta.unit, itoa e.sta.seq, itoa e.sta.state, itoa e.sta.node, itoa e.sta.epoch]
def ePut (a b : EvC) : Nat → EvC
  | 0 => { b with who := a.who }
  | 1 => { b with call := a.call }
  | 2 => { b with epoch := a.epoch }
  | 3 => { b with n := a.n }
  | 4 => { b with act := a.act }
  | 5 => { b with eterm := a.eterm, ekind := a.ekind, ebody := a.ebody }
  | 6 => { b with ord := a.ord }
  | _ => { b with sta := a.sta }
def kindE (k t : Int) : EvC := { ev0 with kind := k, tick := t }
def ePuts (b : EvC) (fs : List Nat) (a : EvC) : EvC := fs.foldl (fun x f => ePut b x f) a
def eClr (fs : List Nat) (e : EvC) : EvC := ePuts ev0 fs e
def evW (e : EvC) : List Wd := itoa e.tick :: evN e.kind :: (evF e.kind).flatMap (eW e)
def EvOk (e : EvC) : Prop := evN e.kind ≠ [] ∧ (0 ≤ e.tick ∧ e.tick ≤ 1099511627776) ∧ (4 ∈ evF e.kind → ActOk e.act) ∧ eClr (evF e.kind) e = kindE e.kind e.tick
structure EvR (e : EvC) : Prop where
  kind : Is64 e.kind
  tick : Is64 e.tick
  who : Is64 e.who
  call : Is64 e.call
  epoch : Is64 e.epoch
  n : Is64 e.n
  eterm : Is64 e.eterm
  ekind : Is64 e.ekind
  blen : e.ebody.length ≤ 1099511627776
  ord : Is64 e.ord.unit ∧ Is64 e.ord.epoch ∧ Is64 e.ord.kind ∧ Is64 e.ord.incident ∧ Is64 e.ord.node
  sta : Is64 e.sta.unit ∧ Is64 e.sta.seq ∧ Is64 e.sta.state ∧ Is64 e.sta.node ∧ Is64 e.sta.epoch
  act : ActR e.act
/-- the text of an action, of an event. -/
def actT (a : ActC) : Wd := lineW (actW a)
def evT (e : EvC) : Wd := lineW (evW e)
end Go.Proofs.YtakdkiggaalimaaGreatDoor
