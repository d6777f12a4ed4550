/-
  nodeset.Parse: the state of its loop, and what it returns.
-/
import Derived.Test.YtalfjcamjdmdjaaDoorRunS
import Derived.Test.YtalfjcamjdmdjaaDoorRunF
import Derived.Test.YtalfjcamjdmdjaaDoorStrP
import Derived.Test.YtalfjcamjdmdjaaDoorMarks
import Derived.Test.YtalfjcamjdmdjaaDoorSplitS
namespace Go.Proofs.YtalfjcamjdmdjaaDoor
open Go.RowKit

/-- the state of Parse's loop. -/
structure PSt (w : World) (r bb pb : Nat) (W : List Nat) (prev : Int) (X : World) : Prop where
  row : RowAt X bb W
  cp : X.heap[pb]? = some (.cells #[.int .i64 prev] 3 (0, 0))
  c0 : X.heap[r]? = some (.cells #[.pointer none] 30 (0, 0))
  c1 : X.heap[r + 1]? = some (.cells #[.int .i64 0] 36 (0, 0))
  below : Below w.heap.size w X
  low : w.heap.size ≤ r ∧ r + 1 < bb ∧ bb < pb
section
variable {w X X' : World} {r bb pb : Nat} {W : List Nat} {prev : Int}
/-- its blocks. -/
def prsB (r bb pb b : Nat) : Prop := b = r ∨ b = r + 1 ∨ b = bb ∨ b = pb
theorem PSt.lt (h : PSt w r bb pb W prev X) : pb < X.heap.size := (Array.getElem?_eq_some_iff.1 h.cp).1
theorem PSt.cells (h : PSt w r bb pb W prev X) {b : Nat} (hb : prsB r bb pb b) : w.heap.size ≤ b ∧ b ≤ pb ∧ ∃ o, X.heap[b]? = some o ∧ o.isCells = true := by
  obtain ⟨l1, l2, l3⟩ := h.low
  rcases hb with rfl | rfl | rfl | rfl
  · exact ⟨l1, by omega, _, h.c0, rfl⟩
  · exact ⟨by omega, by omega, _, h.c1, rfl⟩
  · exact ⟨by omega, by omega, _, h.row, rfl⟩
  · exact ⟨by omega, Nat.le_refl _, _, h.cp, rfl⟩
theorem PSt.only (h : PSt w r bb pb W prev X) {S : Nat → Prop} (ho : Only S X X') (hS : ∀ b, prsB r bb pb b → ¬ S b) (hb : Below w.heap.size X X') : PSt w r bb pb W prev X' := by
  have hl := h.lt
  obtain ⟨l1, l2, l3⟩ := h.low
  exact ⟨h.row.only ho (hS _ (.inr (.inr (.inl rfl)))), (ho.block pb hl (hS _ (.inr (.inr (.inr rfl))))).trans h.cp, (ho.block r (by omega) (hS _ (.inl rfl))).trans h.c0, (ho.block (r + 1) (by omega) (hS _ (.inr (.inl rfl)))).trans h.c1, h.below.trans hb, h.low⟩
theorem PSt.next (h : PSt w r bb pb W prev X) (hb : Below X.heap.size X X') : PSt w r bb pb W prev X' :=
  h.only (S := fun _ => False) (Only.of_below hb) (fun _ _ q => q) (hb.mono h.below.size)
theorem PSt.grown (h : PSt w r bb pb W prev X) {B : Nat} (hB : pb < B) {row : Option Nat} (hg : X.grownBy X' row) (hr : ∀ k, row = some k → B ≤ k ∧ ∃ o : Obj, X.heap[k]? = some o ∧ o.isCells = false) : PSt w r bb pb W prev X' := by
  obtain ⟨l1, l2, l3⟩ := h.low
  refine h.only (S := fun j => row = some j) (Only.of_grown hg (fun j e => e)) (fun b hb e => ?_) ((Below.refl _ _).grown hg h.below.size (fun k e => by have := (hr k e).1; omega))
  have h1 := (hr _ e).1
  have h2 := (h.cells hb).2.1
  omega
theorem PSt.stays (h : PSt w r bb pb W prev X) {sb : Nat} (hs : pb < sb) (v : Value) : PSt w r bb pb W prev (X.setCell ⟨sb, 0, none⟩ v) := by
  obtain ⟨l1, l2, l3⟩ := h.low
  have ho : Only (fun b => b = sb) X (X.setCell ⟨sb, 0, none⟩ v) := Only.setCell (S := fun b => b = sb) Only.refl (a := ⟨sb, 0, none⟩) (fun _ => rfl) _
  refine h.only ho (fun b hb e => ?_) (ho.below h.below.size (fun j e => by have e : j = sb := e; omega))
  have e : b = sb := e
  have h2 := (h.cells hb).2.1
  omega
/-- words added. -/
theorem PSt.added (h : PSt w r bb pb W prev X) {U : List Nat} (hr : RowAt X' bb U) (ho : Only (fun b => b = bb) X X') : PSt w r bb pb U prev X' := by
  have hl := h.lt
  obtain ⟨l1, l2, l3⟩ := h.low
  refine ⟨hr, (ho.block pb hl (by omega)).trans h.cp, (ho.block r (by omega) (by omega)).trans h.c0, (ho.block (r + 1) (by omega) (by omega)).trans h.c1, h.below.trans (ho.below h.below.size (fun j e => by have e : j = bb := e; omega)), h.low⟩
theorem PSt.setP (h : PSt w r bb pb W prev X) (q : Int) : PSt w r bb pb W q (X.setCell ⟨pb, 0, none⟩ (.int .i64 q)) ∧ Only (fun b => b = pb) X (X.setCell ⟨pb, 0, none⟩ (.int .i64 q)) := by
  have hl := h.lt
  obtain ⟨l1, l2, l3⟩ := h.low
  have ho : Only (fun b => b = pb) X (X.setCell ⟨pb, 0, none⟩ (.int .i64 q)) := Only.setCell (S := fun b => b = pb) Only.refl (a := ⟨pb, 0, none⟩) (fun _ => rfl) _
  exact ⟨⟨h.row.only ho (by omega), one_set h.cp, (ho.block r (by omega) (by omega)).trans h.c0, (ho.block (r + 1) (by omega) (by omega)).trans h.c1, h.below.trans (ho.below h.below.size (fun j e => by have e : j = pb := e; omega)), h.low⟩, ho⟩
end
/-- the two results. -/
structure RSet (w : World) (r : Nat) (v : Option Addr) (c : Int) (X : World) : Prop where
  c0 : X.heap[r]? = some (.cells #[.pointer v] 30 (0, 0))
  c1 : X.heap[r + 1]? = some (.cells #[.int .i64 c] 36 (0, 0))
  below : Below w.heap.size w X
  low : w.heap.size ≤ r
section
variable {w X X' : World} {r : Nat} {v : Option Addr} {c : Int}
theorem RSet.lt (h : RSet w r v c X) : r + 1 < X.heap.size := (Array.getElem?_eq_some_iff.1 h.c1).1
theorem RSet.only (h : RSet w r v c X) {S : Nat → Prop} (ho : Only S X X') (h0 : ¬ S r) (h1 : ¬ S (r + 1)) (hb : Below w.heap.size X X') : RSet w r v c X' := by
  have hl := h.lt
  exact ⟨(ho.block r (by omega) h0).trans h.c0, (ho.block (r + 1) hl h1).trans h.c1, h.below.trans hb, h.low⟩
theorem RSet.set (h : RSet w r v c X) (u : Option Addr) (d : Int) : RSet w r u d ((X.setCell ⟨r, 0, none⟩ (.pointer u)).setCell ⟨r + 1, 0, none⟩ (.int .i64 d)) ∧ Only (fun b => b = r ∨ b = r + 1) X ((X.setCell ⟨r, 0, none⟩ (.pointer u)).setCell ⟨r + 1, 0, none⟩ (.int .i64 d)) := by
  have hl := h.lt
  have hlow := h.low
  have o1 : Only (fun b => b = r) X (X.setCell ⟨r, 0, none⟩ (.pointer u)) := Only.setCell (S := fun b => b = r) Only.refl (a := ⟨r, 0, none⟩) (fun _ => rfl) _
  have z1 := o1.size
  have o2 : Only (fun b => b = r + 1) (X.setCell ⟨r, 0, none⟩ (.pointer u)) ((X.setCell ⟨r, 0, none⟩ (.pointer u)).setCell ⟨r + 1, 0, none⟩ (.int .i64 d)) := Only.setCell (S := fun b => b = r + 1) Only.refl (a := ⟨r + 1, 0, none⟩) (fun _ => rfl) _
  have ho : Only (fun b => b = r ∨ b = r + 1) X ((X.setCell ⟨r, 0, none⟩ (.pointer u)).setCell ⟨r + 1, 0, none⟩ (.int .i64 d)) := (o1.mono fun j _ e => .inl e).trans o2 (fun j _ e => .inr e)
  refine ⟨⟨?_, one_set ((o1.block (r + 1) hl (by omega)).trans h.c1), h.below.trans (ho.below h.below.size (fun j e => by rcases e with e | e <;> omega)), h.low⟩, ho⟩
  exact (o2.block r (by omega) (by omega)).trans (one_set h.c0)
end
theorem PSt.rset {w X : World} {r bb pb : Nat} {W : List Nat} {prev : Int} (h : PSt w r bb pb W prev X) : RSet w r none 0 X := ⟨h.c0, h.c1, h.below, h.low.1⟩

theorem textR_at : ∀ (R : List (Nat × Nat)) {R' : List (Nat × Nat)} {x : List UInt8} {T : List (List UInt8)}, textR R ++ x :: T = textR R' → ∃ q U, R' = R ++ q :: U ∧ runT q.1 q.2 = x
  | [], [], _, _, h => by cases h
  | [], q :: U, x, T, h => by
    injection h with h1 h2
    exact ⟨q, U, rfl, h1.symm⟩
  | r :: R, [], _, _, h => by cases h
  | r :: R, q :: U, x, T, h => by
    injection h with h1 h2
    obtain ⟨e1, e2⟩ := runT_inj h1
    obtain ⟨q', U', e, hx⟩ := textR_at R (R' := U) h2
    refine ⟨q', U', ?_, hx⟩
    rw [e, List.cons_append]
    congr 1
    exact (Prod.ext e1 e2).symm
/-- what Parse reads: nothing; runs; or no such text. -/
def Reads (l : List UInt8) (R : List (Nat × Nat)) : Prop := R ≠ [] ∧ goodR (-2) R ∧ Lib.join (textR R) [44] = l
def RetPrs (l : List UInt8) (w : World) (e : Ending) (w' : World) : Prop :=
  Below w.heap.size w w' ∧ ((l = [] ∧ e = .returned (.tuple #[.agg #[.pointer none], .int .i64 0])) ∨
    (∃ R v, Reads l R ∧ e = .returned (.tuple #[.agg #[.pointer v], .int .i64 0]) ∧ SetAt w' v (runsW R)) ∨
    (l ≠ [] ∧ (∀ R, ¬ Reads l R) ∧ e = .returned (.tuple #[.agg #[.pointer none], .int .i64 2])))
section
variable {s : ByteArray} {zs : List ByteArray}
abbrev dat (z : ByteArray) : List UInt8 := z.data.toList
theorem zs_data6 (hzs : zs = Lib.splitB ⟨#[44]⟩ 0 s.size s) : zs.map dat = Lib.splitK [44] 0 s.data.toList.length s.data.toList := by
  rw [hzs, show s.data.toList.length = s.size by simp]
  exact Lib.splitB_data _ _ _ _
theorem zs_join (hzs : zs = Lib.splitB ⟨#[44]⟩ 0 s.size s) : Lib.join (zs.map dat) [44] = s.data.toList := by
  rw [zs_data6 hzs]
  exact join_split _ _
theorem zs_ne (hzs : zs = Lib.splitB ⟨#[44]⟩ 0 s.size s) : zs ≠ [] := fun e => by
  have := zs_data6 hzs
  rw [e] at this
  exact splitK_ne _ _ _ _ this.symm
theorem join_mem_len : ∀ {ps : List (List UInt8)} {x : List UInt8}, x ∈ ps → x.length ≤ (Lib.join ps [44]).length
  | [p], x, h => by rw [List.mem_singleton.1 h, Lib.join_one]; exact Nat.le_refl _
  | p :: q :: t, x, h => by
    rw [join_two, List.length_append, List.length_append]
    rcases List.mem_cons.1 h with rfl | h
    · omega
    · have := join_mem_len h
      omega
theorem zs_small (hzs : zs = Lib.splitB ⟨#[44]⟩ 0 s.size s) {x : ByteArray} (hx : x ∈ zs) : x.size ≤ s.size := by
  have h := join_mem_len (List.mem_map.2 ⟨x, hx, rfl⟩ : dat x ∈ zs.map dat)
  rw [zs_join hzs] at h
  simpa [dat] using h
theorem reads_done (hzs : zs = Lib.splitB ⟨#[44]⟩ 0 s.size s) {R : List (Nat × Nat)} (hg : goodR (-2) R) (ht : textR R = zs.map dat) : Reads s.data.toList R := by
  refine ⟨fun e => zs_ne hzs ?_, hg, by rw [ht]; exact zs_join hzs⟩
  rw [e] at ht
  exact List.map_eq_nil_iff.1 ht.symm
theorem reads_bad (hzs : zs = Lib.splitB ⟨#[44]⟩ 0 s.size s) {R : List (Nat × Nat)} {pre : List {z : ByteArray // z ∈ zs}} {x : {z : ByteArray // z ∈ zs}} (hp : pre ++ [x] <+: zs.attach) (ht : textR R = pre.map (fun z => dat z.1)) (hb : ∀ a b, a ≤ b → b < 4096 → runT a b = dat x.1 → ¬ lastR (-2) R + 1 < (a : Int)) : ∀ R', ¬ Reads s.data.toList R' := by
  rintro R' ⟨h1, h2, h3⟩
  obtain ⟨ys, hys⟩ := hp
  have e := pieces_of h1 h3
  rw [← zs_data6 hzs] at e
  have hm := congrArg (List.map (fun z : {z : ByteArray // z ∈ zs} => dat z.1)) hys
  have hat : zs.attach.map (fun z : {z : ByteArray // z ∈ zs} => dat z.1) = zs.map dat := by
    have := congrArg (List.map dat) (List.attach_map_subtype_val zs)
    rwa [List.map_map] at this
  rw [hat, e, List.map_append, List.map_append, ← ht, List.append_assoc] at hm
  have hm' : textR R ++ dat x.1 :: ys.map (fun z : {z : ByteArray // z ∈ zs} => dat z.1) = textR R' := hm
  obtain ⟨q, U, hR', hx⟩ := textR_at R hm'
  rw [hR'] at h2
  have hgq := (goodR_append R (q :: U) (-2) h2).2
  exact hb q.1 q.2 hgq.2.1 hgq.2.2.1 hx hgq.1
end
end Go.Proofs.YtalfjcamjdmdjaaDoor
