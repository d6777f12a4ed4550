/-
  traveltimes.Parse: its two ends, in plain words.
-/
import Derived.Test.YtppbmnlneoinhaaDoorPars
namespace Go.Proofs.YtppbmnlneoinhaaDoor
open Go.RowKit Go.Shelf Go.Maps

section
variable {s : ByteArray} {zs : List ByteArray}
theorem zs_data (hzs : zs = Lib.splitB ⟨#[10]⟩ 1 s.size s) : zs.map (fun z => z.data.toList) = Lib.splitK [10] 1 s.size s.data.toList := by
  rw [hzs]
  exact Lib.splitB_data _ _ _ _
theorem zs_pieces (hzs : zs = Lib.splitB ⟨#[10]⟩ 1 s.size s) : Pieces (zs.map (fun z => z.data.toList)) ∧ (zs.map (fun z => z.data.toList)).flatten = s.data.toList := by
  rw [zs_data hzs]
  exact splitA _ _ (by show s.data.toList.length ≤ s.data.size; simp)
theorem attach_data : zs.attach.map (fun x => x.1.data.toList) = zs.map (fun z => z.data.toList) := by
  have h : zs.attach.map (fun x => x.1.data.toList) = (zs.attach.map Subtype.val).map (fun z => z.data.toList) := by rw [List.map_map]; rfl
  rw [h, List.attach_map_subtype_val]
/-- a text cut into its pieces, at one of them. -/
theorem zs_at (hzs : zs = Lib.splitB ⟨#[10]⟩ 1 s.size s) {pre0 : List {z : ByteArray // z ∈ zs}} {x : {z : ByteArray // z ∈ zs}} (hp : pre0 ++ [x] <+: zs.attach) :
    ∃ R : List (List UInt8), s.data.toList = (pre0.map (fun x => x.1.data.toList)).flatten ++ (x.1.data.toList ++ R.flatten) ∧ (((∃ y, x.1.data.toList = y ++ [10] ∧ (10 : UInt8) ∉ y) ∧ R ≠ []) ∨ (R = [] ∧ (10 : UInt8) ∉ x.1.data.toList)) := by
  obtain ⟨t, ht⟩ := hp
  obtain ⟨h1, h2⟩ := zs_pieces hzs
  rw [← attach_data, ← ht] at h1 h2
  simp only [List.map_append, List.map_cons, List.append_assoc, List.cons_append, List.nil_append] at h1 h2
  refine ⟨t.map (fun x => x.1.data.toList), ?_, pieces_at h1⟩
  rw [← h2, List.flatten_append, List.flatten_cons]
section
variable {w Wl : World} {B gp n : Nat} {E : List EdgeT} {p cb r tb nb : Nat} {W : World}
theorem pi_fine (hzs : zs = Lib.splitB ⟨#[10]⟩ 1 s.size s) (h : PI w Wl B gp n E p cb r tb nb zs zs.attach W) : ∃ F L, PSt w Wl B gp n E p cb r tb nb F L L.length W ∧ Fine E.length s.data.toList L := by
  obtain ⟨F, L, h1, h2, _, h3⟩ := h
  refine ⟨F, L, h1, h2, ?_⟩
  rw [← h3, attach_data, (zs_pieces hzs).2]
theorem pend_fine (hzs : zs = Lib.splitB ⟨#[10]⟩ 1 s.size s) {pre : List {z : ByteArray // z ∈ zs}} (hp : pre <+: zs.attach) (h : PEnd w Wl B gp n E p cb r tb nb zs pre W) : ∃ F L, PSt w Wl B gp n E p cb r tb nb F L L.length W ∧ Fine E.length s.data.toList L := by
  obtain ⟨pre0, x, rfl, hx, F, L, h1, h2, _, h3⟩ := h
  obtain ⟨R, hR, hc⟩ := zs_at hzs hp
  refine ⟨F, L, h1, h2, ?_⟩
  rcases hc with ⟨⟨y, hy, _⟩, _⟩ | ⟨rfl, _⟩
  · rw [hx] at hy
    have := congrArg List.length hy
    simp at this
  · rw [hR, h3, hx]
    simp
theorem perr_bad (hm : E.length ≤ 1099511627776) (hzs : zs = Lib.splitB ⟨#[10]⟩ 1 s.size s) {pre : List {z : ByteArray // z ∈ zs}} (hp : pre <+: zs.attach) (h : PErr w Wl E.length r zs pre W) : ∃ L : List ChgT, Bad E.length s.data.toList L ∧
    W.cell? ⟨r, 0, none⟩ = some (.pointer none) ∧ W.cell? ⟨r + 1, 0, none⟩ = some (.int .i64 ((L.length + 1 : Nat) : Int)) ∧ W.cell? ⟨r + 1 + 1, 0, none⟩ = some (.int .i64 2) ∧ Below w.heap.size w W ∧ Wl.heap.size ≤ W.heap.size := by
  obtain ⟨pre0, x, L, rfl, h2, h3, h4, h5, h6⟩ := h
  obtain ⟨R, hR, hc⟩ := zs_at hzs hp
  refine ⟨L, ⟨h2, x.1.data.toList ++ R.flatten, by rw [hR, h3], ?_, fun c t hc' hl e => ?_⟩, h6⟩
  · intro e
    exact h4 (List.append_eq_nil_iff.1 e).1
  · exact h5 c hc' hl (piece_line (okR_of hm hc') hc e)
end
end

section
variable {r : Nat}
theorem ret_cells {R : Ending → World → Prop} {tmps : Array Value} {D : Nat} {W1 : World} {a b c : Value} (h4 : tmps[4]? = some (.pointer (some ⟨r, 0, none⟩))) (h5 : tmps[5]? = some (.pointer (some ⟨r + 1, 0, none⟩))) (h6 : tmps[6]? = some (.pointer (some ⟨r + 1 + 1, 0, none⟩)))
    (hm : W1.heap[D]? = some (.deferred (some []))) (hD : r + 1 + 1 < D) (c0 : W1.cell? ⟨r, 0, none⟩ = some a) (c1 : W1.cell? ⟨r + 1, 0, none⟩ = some b) (c2 : W1.cell? ⟨r + 1 + 1, 0, none⟩ = some c)
    (hR : ∀ W', Only (fun k => k = D) W1 W' → R (.returned (.tuple #[a, b, c])) W') :
    LeavesInM Fence.wide 4 Tryd.prog Tryd.f10 tmps R [{ target := .collected D, args := #[] }] .returning W1 := by
  refine leaves_one hm fun W' hW' => ?_
  have hDl := (Array.getElem?_eq_some_iff.1 hm).1
  have K : ∀ b, b < D → W'.cell? ⟨b, 0, none⟩ = W1.cell? ⟨b, 0, none⟩ := fun b hb => hW'.cell (a := ⟨b, 0, none⟩) (by show b < _; omega) (fun e => by have e : b = D := e; omega)
  have k0 := (K _ (by omega)).trans c0
  have k1 := (K _ (by omega)).trans c1
  have k2 := (K _ (by omega)).trans c2
  refine ⟨_, ?_, hR W' hW'⟩
  simp [results, Tryd.results10, go_sem, h4, h5, h6, k0, k1, k2]
end
end Go.Proofs.YtppbmnlneoinhaaDoor
