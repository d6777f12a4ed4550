/-
  roadgraph.build and New: the graph that they lay.
-/
import Derived.Test.YtimijjhdgihobaaDoorMqh
import Derived.Deep.RegionHeld3
import Derived.Deep.RegionLaw
import Derived.BigRegion
import Derived.Laws.MakeOwn
import Derived.RegionTactic
import Derived.Deep.DeepCutAuto
namespace Go.Proofs.YtimijjhdgihobaaDoor
section
open Go.RowKit Go.Maps

/-- a graph with n nodes and the edges E, at block p, all of it below B. -/
structure GraphAt (w : World) (B p n : Nat) (E : List EdgeT) : Prop where
  lt : p < B
  edges : ∃ A c, w.cell? ⟨p, 0, none⟩ = some (.slice A E.length c) ∧ EdgesAt w B A E ∧ E.length ≤ c ∧ c ≤ 9223372036854775807
  out : ∃ ob, ob < B ∧ w.cell? ⟨p, 1, none⟩ = some (.slice (some ⟨ob, 0, none⟩) n n) ∧ ∀ j, j < n → ∃ A c, w.cell? ⟨ob, j, none⟩ = some (.slice A (idx EdgeT.frm E E.length j).length c) ∧ Sl w B A ((idx EdgeT.frm E E.length j).map (Value.int .i64)) ∧ (idx EdgeT.frm E E.length j).length ≤ c
  inn : ∃ v, w.cell? ⟨p, 2, none⟩ = some v
theorem GraphAt.below {w w' : World} {B p n : Nat} {E : List EdgeT} (h : GraphAt w B p n E) (hb : Below B w w') : GraphAt w' B p n E := by
  obtain ⟨A, c, h1, h2, h3, h4⟩ := h.edges
  obtain ⟨ob, k1, k2, k3⟩ := h.out
  obtain ⟨v, m1⟩ := h.inn
  refine ⟨h.lt, ⟨A, c, (hb.cell (p := ⟨p, 0, none⟩) h.lt).trans h1, h2.below hb, h3, h4⟩, ⟨ob, k1, (hb.cell (p := ⟨p, 1, none⟩) h.lt).trans k2, fun j hj => ?_⟩, ⟨v, (hb.cell (p := ⟨p, 2, none⟩) h.lt).trans m1⟩⟩
  obtain ⟨A', c', q1, q2, q3⟩ := k3 j hj
  exact ⟨A', c', (hb.cell (p := ⟨ob, j, none⟩) k1).trans q1, q2.below hb, q3⟩
theorem GraphAt.more {w : World} {B B' p n : Nat} {E : List EdgeT} (h : GraphAt w B p n E) (hB : B ≤ B') : GraphAt w B' p n E := by
  obtain ⟨A, c, h1, h2, h3, h4⟩ := h.edges
  obtain ⟨ob, k1, k2, k3⟩ := h.out
  refine ⟨Nat.lt_of_lt_of_le h.lt hB, ⟨A, c, h1, h2.more hB, h3, h4⟩, ⟨ob, Nat.lt_of_lt_of_le k1 hB, k2, fun j hj => ?_⟩, h.inn⟩
  obtain ⟨A', c', q1, q2, q3⟩ := k3 j hj
  exact ⟨A', c', q1, q2.more hB, q3⟩

theorem grown_cell {w w' : World} {row : Option Nat} (hg : w.grownBy w' row) {a : Addr} (hl : a.block < w.heap.size) (hne : row ≠ some a.block) : w'.cell? a = w.cell? a := by
  have h := hg.block a.block hl (fun e => hne e.symm)
  unfold World.cell?
  rw [h]

def sideE (s : Bool) : EdgeT → Int := fun e => if s = true then e.dst else e.frm
def RetGraph (w : World) (n : Nat) (E : List EdgeT) (e : Ending) (w' : World) : Prop := ∃ p, e = .returned (.pointer (some ⟨p, 0, none⟩)) ∧ GraphAt w' w'.heap.size p n E ∧ w.heap.size ≤ p ∧ Below w.heap.size w w'

theorem slice_info : (Tryd.prog.info? 36).map (fun i => (i.zero, i.size, i.bytes)) = some (some (.slice none 0 0), 1, 24) := by kernel_rfl
theorem make_rows (w : World) (n : Nat) (h : n ≤ 4096) : (Instr.makeSlice 82 (.int .i64 n) (.int .i64 n)).run Tryd.prog w = .ok (.slice (some ⟨w.heap.size, 0, none⟩) n n) (w.alloc (.cells (madeCells #[.slice none 0 0] n) 36)) := by
  obtain ⟨i0, hi, hz1, hz2, hz3⟩ := info_parts slice_info
  have := run_makeSlice (P := Tryd.prog) w 82 36 i0 (.slice none 0 0) Tryd.underlying82 hi hz1 .i64 .i64 n n (by omega) (by omega) (by rw [hz2]; simp; omega) (by rw [hz3]; omega) (by omega)
  rw [hz2] at this
  have e : (Value.slice none 0 0).cells = #[Value.slice none 0 0] := rfl
  rw [e] at this
  simpa using this
theorem made_at {n j : Nat} (hj : j < n) : (madeCells #[.slice none 0 0] n)[j]? = some (.slice none 0 0) := by
  unfold madeCells
  rw [Array.getElem?_map, Array.getElem?_range, if_pos hj]
  simp [Nat.mod_one]

/-- the numbers that the rows hold while the edge k is under way. -/
def rowsK (E : List EdgeT) (a b : Nat) : Bool → Nat → List Int := fun s j => idx (sideE s) E (if s = true then b else a) j
/-- where the loop of build stands: k edges done. -/
structure BuiltTo (w : World) (n : Nat) (A : Option Addr) (c : Nat) (E : List EdgeT) (p k : Nat) (wr : World) : Prop where
  rows : ∃ bl F, w.heap.size ≤ bl false ∧ w.heap.size ≤ bl true ∧ RowsAt wr (p + 1) bl n F (rowsK E k k) ∧ wr.cell? ⟨p, 1, none⟩ = some (.slice (some ⟨bl false, 0, none⟩) n n) ∧ wr.cell? ⟨p, 2, none⟩ = some (.slice (some ⟨bl true, 0, none⟩) n n) ∧ (∀ s, bl s ≠ p)
  edges : wr.cell? ⟨p, 0, none⟩ = some (.slice A E.length c)
  below : Below w.heap.size w wr
theorem built_start {w : World} {n : Nat} {A : Option Addr} {c : Nat} {E : List EdgeT} (b1 b2 : Nat) (h : (b1 = w.heap.size ∧ b2 = w.heap.size + 1) ∨ (b1 = w.heap.size + 1 ∧ b2 = w.heap.size)) :
    BuiltTo w n A c E (w.heap.size + 1 + 1) 0 (((w.alloc (.cells (madeCells #[.slice none 0 0] n) 36)).alloc (.cells (madeCells #[.slice none 0 0] n) 36)).alloc (.cells #[.slice A E.length c, .slice (some ⟨b1, 0, none⟩) n n, .slice (some ⟨b2, 0, none⟩) n n] 84)).drew := by
  have hz : ∀ o1 o2 o3 : Obj, (((w.alloc o1).alloc o2).alloc o3).heap.size = w.heap.size + 3 := by intro o1 o2 o3; simp
  have ca : ∀ (o3 : Obj) (j : Nat), j < n → (((w.alloc (.cells (madeCells #[.slice none 0 0] n) 36)).alloc (.cells (madeCells #[.slice none 0 0] n) 36)).alloc o3).cell? ⟨w.heap.size, j, none⟩ = some (.slice none 0 0) := by
    intro o3 j hj
    rw [World.cell?_alloc_lt _ _ _ (by simp; omega), World.cell?_alloc_lt _ _ _ (by simp), World.cell?_alloc_at (hn := rfl)]
    exact made_at hj
  have cb : ∀ (o3 : Obj) (j : Nat), j < n → (((w.alloc (.cells (madeCells #[.slice none 0 0] n) 36)).alloc (.cells (madeCells #[.slice none 0 0] n) 36)).alloc o3).cell? ⟨w.heap.size + 1, j, none⟩ = some (.slice none 0 0) := by
    intro o3 j hj
    rw [World.cell?_alloc_lt _ _ _ (by simp), World.cell?_alloc_at (hn := by simp)]
    exact made_at hj
  have fa : ∀ (o3 : Obj) (j : Nat), (((w.alloc (.cells (madeCells #[.slice none 0 0] n) 36)).alloc (.cells (madeCells #[.slice none 0 0] n) 36)).alloc o3).frozen? ⟨w.heap.size, j, none⟩ = false := by
    intro o3 j
    rw [World.frozen?_alloc_past (hn := by simp; omega), World.frozen?_alloc_past (hn := by simp), World.frozen?_alloc_at (hn := rfl)]
  have fb : ∀ (o3 : Obj) (j : Nat), (((w.alloc (.cells (madeCells #[.slice none 0 0] n) 36)).alloc (.cells (madeCells #[.slice none 0 0] n) 36)).alloc o3).frozen? ⟨w.heap.size + 1, j, none⟩ = false := by
    intro o3 j
    rw [World.frozen?_alloc_past (hn := by simp), World.frozen?_alloc_at (hn := by simp)]
  refine ⟨⟨fun s => if s = true then b2 else b1, fun _ _ => .slice none 0 0, by show w.heap.size ≤ b1; omega, by show w.heap.size ≤ b2; omega, ⟨?_, ?_, (fun s j _ => by rw [show rowsK E 0 0 s j = [] by cases s <;> rfl]; exact OwnV.nil _ _ _), (fun _ _ _ _ _ _ _ g e => by cases e), ?_, ?_, ?_⟩, ?_, ?_, ?_⟩, ?_, ?_⟩
  · intro s j hj
    rcases h with ⟨rfl, rfl⟩ | ⟨rfl, rfl⟩ <;> cases s
    · exact ca _ j hj
    · exact cb _ j hj
    · exact cb _ j hj
    · exact ca _ j hj
  · intro s j hj
    rcases h with ⟨rfl, rfl⟩ | ⟨rfl, rfl⟩ <;> cases s
    · exact fa _ j
    · exact fb _ j
    · exact fb _ j
    · exact fa _ j
  · intro s
    rcases h with ⟨rfl, rfl⟩ | ⟨rfl, rfl⟩ <;> cases s
    · show w.heap.size < _
      omega
    · show w.heap.size + 1 < _
      omega
    · show w.heap.size + 1 < _
      omega
    · show w.heap.size < _
      omega
  · rcases h with ⟨rfl, rfl⟩ | ⟨rfl, rfl⟩ <;> simp
  · show _ ≤ (((w.alloc _).alloc _).alloc _).heap.size
    rw [hz]
    omega
  · show (World.alloc _ _).cell? _ = _
    rw [World.cell?_alloc_at (hn := by simp)]
    rfl
  · show (World.alloc _ _).cell? _ = _
    rw [World.cell?_alloc_at (hn := by simp)]
    rfl
  · intro s
    rcases h with ⟨rfl, rfl⟩ | ⟨rfl, rfl⟩ <;> cases s
    · show w.heap.size ≠ _
      omega
    · show w.heap.size + 1 ≠ _
      omega
    · show w.heap.size + 1 ≠ _
      omega
    · show w.heap.size ≠ _
      omega
  · show (World.alloc _ _).cell? _ = _
    rw [World.cell?_alloc_at (hn := by simp)]
    rfl
  · exact ((((Below.refl _ _).alloc (Nat.le_refl _) _).alloc (by simp) _).alloc (by simp; omega) _).drew

theorem RowsAt.congr {w : World} {base : Nat} {bl : Bool → Nat} {n : Nat} {F : Bool → Nat → Value} {P P' : Bool → Nat → List Int} (h : RowsAt w base bl n F P) (hP : ∀ s j, P s j = P' s j) : RowsAt w base bl n F P' := by
  have : P = P' := by funext s j; exact hP s j
  subst this
  exact h
theorem rowsK_side {E : List EdgeT} {k : Nat} {e : EdgeT} (h : E[k]? = some e) (s : Bool) {f : Nat} (hf : sideE s e = f) {a b : Nat} (hk : (if s = true then b else a) = k) :
    ∀ s' j', updF (rowsK E a b) s f (rowsK E a b s f ++ [(k : Int)]) s' j' = rowsK E (if s = true then a else k + 1) (if s = true then k + 1 else b) s' j' := by
  intro s' j'
  by_cases q : s' = s ∧ j' = f
  · obtain ⟨rfl, rfl⟩ := q
    rw [updF_same]
    unfold rowsK
    rw [hk]
    cases s' <;> simp only [Bool.false_eq_true, if_false, if_true] <;> rw [idx_succ h, if_pos hf]
  · rw [updF_other q]
    unfold rowsK
    by_cases q1 : s' = s
    · subst q1
      have hne : ¬ sideE s' e = (j' : Int) := by
        intro e1
        apply q
        refine ⟨rfl, ?_⟩
        rw [hf] at e1
        omega
      rw [hk]
      cases s' <;> simp only [Bool.false_eq_true, if_false, if_true] <;> rw [idx_succ h, if_neg hne, List.append_nil]
    · cases s <;> cases s' <;> first | exact absurd rfl q1 | rfl

structure HalfTo (w : World) (n : Nat) (A : Option Addr) (c : Nat) (E : List EdgeT) (p k : Nat) (bl : Bool → Nat) (eb t : Nat) (wx : World) : Prop where
  rows : ∃ F, RowsAt wx (p + 1) bl n F (rowsK E (k + 1) k) ∧ ∀ s j, j < n → (F s j).ownBlock ≠ some eb
  c0 : wx.cell? ⟨p, 0, none⟩ = some (.slice A E.length c)
  c1 : wx.cell? ⟨p, 1, none⟩ = some (.slice (some ⟨bl false, 0, none⟩) n n)
  c2 : wx.cell? ⟨p, 2, none⟩ = some (.slice (some ⟨bl true, 0, none⟩) n n)
  ce : wx.cell? ⟨eb, 1, none⟩ = some (.int .i64 (t : Int))
  below : Below w.heap.size w wx
  lt : eb < wx.heap.size

set_option maxRecDepth 100000 in
set_option maxHeartbeats 4000000 in
theorem build_any (n : Nat) (A : Option Addr) (c : Nat) (E : List EdgeT) (w : World) (hn : n ≤ 4096) (hE : E.length ≤ 16384) (he : EdgesAt w w.heap.size A E) (hc : E.length ≤ c) (hc2 : c ≤ 9223372036854775807) (hok : ∀ e ∈ E, 0 ≤ e.frm ∧ e.frm < n ∧ 0 ≤ e.dst ∧ e.dst < n) :
    Calls Tryd.prog 24 #[.int .i64 n, .slice A E.length c] w (RetGraph w n E) := by
  have hmk := fun W => make_rows W n hn
  go_enter Tryd.func24, Tryd.ntmps24
  have HE := Lib.hid he
  have HOK := Lib.hid hok
  clear he hok
  go_upto_region 1 with (fail)
  go_cut [5] (fun v wx => v = .pointer (some ⟨w.heap.size + 1 + 1, 0, none⟩) ∧ BuiltTo w n A c E (w.heap.size + 1 + 1) 0 wx)
  case first =>
    go_region
    · go_wp2_with fail
      go_meet
      case rel => exact ⟨rfl, built_start _ _ (.inl ⟨rfl, rfl⟩)⟩
    · go_wp2_with fail
      go_meet
      case rel => exact ⟨rfl, built_start _ _ (.inr ⟨rfl, rfl⟩)⟩
  case rest =>
    obtain ⟨rfl, hst⟩ := hcut
    have HST := Lib.hid hst
    clear hst hmk
    obtain ⟨p, hp⟩ : ∃ p, p = w.heap.size + 1 + 1 := ⟨_, rfl⟩
    rw [← hp] at HST ⊢
    have hpz : w.heap.size < p := by omega
    clear hp
    go_wp2_with fail
    go_loopw [17] (fun iv wr => ∃ k : Nat, k ≤ E.length ∧ iv = .int .i64 k ∧ BuiltTo w n A c E p k wr) (fun i _ => E.length - (intOf i).toNat)
    case atStart => exact ⟨0, Nat.zero_le _, rfl, HST.out⟩
    case round =>
      obtain ⟨k, hk, rfl, hat⟩ := hrel
      have HAT := Lib.hid hat
      clear hat HST
      by_cases hlt : k < E.length
      · obtain ⟨⟨frm, too, tm⟩, hek⟩ : ∃ e, E[k]? = some e := ⟨E[k], by simp⟩
        obtain ⟨b, o, rfl, hbl, c0, c1, c2⟩ := (HE.out.below HAT.out.below).at hek
        obtain ⟨h1, h2, h3, h4⟩ := HOK.out _ (List.mem_of_getElem? hek)
        simp only at c0 c1 c2 h1 h2 h3 h4
        obtain ⟨f, rfl⟩ := Int.eq_ofNat_of_zero_le h1
        obtain ⟨t, rfl⟩ := Int.eq_ofNat_of_zero_le h3
        obtain ⟨bl, F, hbl0, hbl1, hrows, hp1, hp2, hblp⟩ := HAT.out.rows
        have hfn : f < n := by omega
        have htn : t < n := by omega
        have hpr : p < wr.heap.size := Nat.lt_of_succ_le hrows.room
        have hrowW := hrows
        have hrowA := hrows.alloc (.cells #[.int .i64 (f : Int), .int .i64 (t : Int), .int .i64 tm] 55)
        have hpe : p ≠ wr.heap.size := by omega
        have hil := idx_len (sideE false) E k f
        have HIL := Lib.hid hil
        have HEK := Lib.hid hek
        have hfj : (f : Int) < (n : Int) := by omega
        have htj : (t : Int) < (n : Int) := by omega
        have HP1 := Lib.hid hp1
        have HP2 := Lib.hid hp2
        have HB1 := Lib.hid (HAT.out.below.alloc (by have := HAT.out.below.size; omega) (.cells #[.int .i64 (f : Int), .int .i64 (t : Int), .int .i64 tm] 55))
        clear hek hil h1 h2 h3 h4 hrows hp1 hp2
        go_upto_region 5 with (fail)
        obtain ⟨eb, heb⟩ : ∃ eb, eb = wr.heap.size := ⟨_, rfl⟩
        have a1 : (wr.alloc (.cells #[.int .i64 (f : Int), .int .i64 (t : Int), .int .i64 tm] 55)).cell? ⟨p, 1, none⟩ = some (.slice (some ⟨bl false, 0, none⟩) n n) := (World.cell?_alloc_lt wr _ ⟨p, 1, none⟩ hpr).trans HP1.out
        have a2 : (wr.alloc (.cells #[.int .i64 (f : Int), .int .i64 (t : Int), .int .i64 tm] 55)).cell? ⟨p, 2, none⟩ = some (.slice (some ⟨bl true, 0, none⟩) n n) := (World.cell?_alloc_lt wr _ ⟨p, 2, none⟩ hpr).trans HP2.out
        have a0 : (wr.alloc (.cells #[.int .i64 (f : Int), .int .i64 (t : Int), .int .i64 tm] 55)).cell? ⟨p, 0, none⟩ = some (.slice (some ⟨b, o, none⟩) E.length c) := (World.cell?_alloc_lt wr _ ⟨p, 0, none⟩ hpr).trans HAT.out.edges
        have e0 : (wr.alloc (.cells #[.int .i64 (f : Int), .int .i64 (t : Int), .int .i64 tm] 55)).cell? ⟨eb, 0, none⟩ = some (.int .i64 f) := by rw [heb]; simp
        have e1 : (wr.alloc (.cells #[.int .i64 (f : Int), .int .i64 (t : Int), .int .i64 tm] 55)).cell? ⟨eb, 1, none⟩ = some (.int .i64 t) := by rw [heb]; simp
        have hz1 : (wr.alloc (.cells #[.int .i64 (f : Int), .int .i64 (t : Int), .int .i64 tm] 55)).heap.size = eb + 1 := by rw [heb]; simp
        rw [← heb] at hpr hpe ⊢
        have hFeb : ∀ s j, j < n → (F s j).ownBlock ≠ some eb := fun s j hj q => by have := (hrowW.own s j hj).lt_size eb q; omega
        generalize wr.alloc (.cells #[.int .i64 (f : Int), .int .i64 (t : Int), .int .i64 tm] 55) = W1 at *
        have hp1z : p < W1.heap.size := by omega
        have he1z : eb < W1.heap.size := by omega
        have r1 := hrowA.cell false f hfn
        have r2 := (hrowA.alloc (.cells #[.int .i64 (k : Int)] 3)).cell false f hfn
        have a1' : (W1.alloc (.cells #[.int .i64 (k : Int)] 3)).cell? ⟨p, 1, none⟩ = some (.slice (some ⟨bl false, 0, none⟩) n n) := (World.cell?_alloc_lt W1 _ ⟨p, 1, none⟩ hp1z).trans a1
        have e0' : (W1.alloc (.cells #[.int .i64 (k : Int)] 3)).cell? ⟨eb, 0, none⟩ = some (.int .i64 f) := (World.cell?_alloc_lt W1 _ ⟨eb, 0, none⟩ he1z).trans e0
        have hown1 := hrowA.drew.own false f hfn
        have HROW := Lib.hid hrowA
        have HOWN1 := Lib.hid hown1
        have hz2 : W1.heap.size = eb + 1 := hz1
        have HZ1 := Lib.hid hz1
        have HFEB := Lib.hid hFeb
        clear hFeb
        clear hz1 hz2 hrowA hown1 heb
        have HBLP := Lib.hid hblp
        have hble : ∀ s, bl s ≠ eb := fun s q => by have := hrowW.low s; omega
        have HBE := Lib.hid hble
        have HR := Lib.hid r1
        have HC2 := Lib.hid (And.intro a2 (And.intro a0 e1))
        clear hrowW a2 a0 e1
        go_cut [6] (fun v wx => v = .int .i64 (k : Int) ∧ HalfTo w n (some ⟨b, o, none⟩) c E p k bl eb t wx)
        case first =>
          refine wp_region_held_drew (S := (fun w' => w'.cell? ⟨p, 1, none⟩ = some (.slice (some ⟨bl false, 0, none⟩) n n) ∧ w'.cell? ⟨eb, 0, none⟩ = some (.int .i64 (f : Int)))) (by kernel_rfl) ⟨a1, e0⟩ (fun hHeld => ?_)
          refine wpAnyH_take (i := 0) (v := .pointer (some ⟨p, 0, none⟩)) rfl (by kernel_rfl) (by kernel_rfl) (by kernel_rfl) (fun _ _ _ h => h) (Or.inl ⟨by rfl, ?_⟩) (by assumption) ?_
          · intro w hSw
            obtain ⟨s1, s2⟩ := hSw
            go_simp
          refine wpAnyH_take (i := 1) (v := .pointer (some ⟨p, 0, none⟩)) rfl (by kernel_rfl) (by kernel_rfl) (by kernel_rfl) (fun _ _ _ h => h) (Or.inl ⟨by rfl, ?_⟩) (by assumption) ?_
          · intro w hSw
            obtain ⟨s1, s2⟩ := hSw
            go_simp
          refine wpAnyH_take (i := 2) (v := .pointer (some ⟨p, 1, none⟩)) rfl (by kernel_rfl) (by kernel_rfl) (by kernel_rfl) (fun _ _ _ h => h) (Or.inl ⟨by rfl, ?_⟩) (by assumption) ?_
          · intro w hSw
            obtain ⟨s1, s2⟩ := hSw
            go_simp
          refine wpAnyH_take (i := 3) (v := .slice (some ⟨bl false, 0, none⟩) n n) rfl (by kernel_rfl) (by kernel_rfl) (by kernel_rfl) (fun _ _ _ h => h) (Or.inl ⟨by rfl, ?_⟩) (by assumption) ?_
          · intro w hSw
            obtain ⟨s1, s2⟩ := hSw
            go_simp
          refine wpAnyH_take (i := 4) (v := .pointer (some ⟨eb, 0, none⟩)) rfl (by kernel_rfl) (by kernel_rfl) (by kernel_rfl) (fun _ _ _ h => h) (Or.inl ⟨by rfl, ?_⟩) (by assumption) ?_
          · intro w hSw
            obtain ⟨s1, s2⟩ := hSw
            go_simp
          refine wpAnyH_take (i := 5) (v := .int .i64 (f : Int)) rfl (by kernel_rfl) (by kernel_rfl) (by kernel_rfl) (fun _ _ _ h => h) (Or.inl ⟨by rfl, ?_⟩) (by assumption) ?_
          · intro w hSw
            obtain ⟨s1, s2⟩ := hSw
            go_simp
          refine wpAnyH_take (i := 6) (v := .pointer (some ⟨p, 0, none⟩)) rfl (by kernel_rfl) (by kernel_rfl) (by kernel_rfl) (fun _ _ _ h => h) (Or.inl ⟨by rfl, ?_⟩) (by assumption) ?_
          · intro w hSw
            obtain ⟨s1, s2⟩ := hSw
            go_simp
          refine wpAnyH_take (i := 7) (v := .pointer (some ⟨p, 0, none⟩)) rfl (by kernel_rfl) (by kernel_rfl) (by kernel_rfl) (fun _ _ _ h => h) (Or.inl ⟨by rfl, ?_⟩) (by assumption) ?_
          · intro w hSw
            obtain ⟨s1, s2⟩ := hSw
            go_simp
          refine wpAnyH_take (i := 8) (v := .pointer (some ⟨p, 1, none⟩)) rfl (by kernel_rfl) (by kernel_rfl) (by kernel_rfl) (fun _ _ _ h => h) (Or.inl ⟨by rfl, ?_⟩) (by assumption) ?_
          · intro w hSw
            obtain ⟨s1, s2⟩ := hSw
            go_simp
          refine wpAnyH_take (i := 9) (v := .slice (some ⟨bl false, 0, none⟩) n n) rfl (by kernel_rfl) (by kernel_rfl) (by kernel_rfl) (fun _ _ _ h => h) (Or.inl ⟨by rfl, ?_⟩) (by assumption) ?_
          · intro w hSw
            obtain ⟨s1, s2⟩ := hSw
            go_simp
          refine wpAnyH_take (i := 10) (v := .pointer (some ⟨eb, 0, none⟩)) rfl (by kernel_rfl) (by kernel_rfl) (by kernel_rfl) (fun _ _ _ h => h) (Or.inl ⟨by rfl, ?_⟩) (by assumption) ?_
          · intro w hSw
            obtain ⟨s1, s2⟩ := hSw
            go_simp
          refine wpAnyH_take (i := 11) (v := .int .i64 (f : Int)) rfl (by kernel_rfl) (by kernel_rfl) (by kernel_rfl) (fun _ _ _ h => h) (Or.inl ⟨by rfl, ?_⟩) (by assumption) ?_
          · intro w hSw
            obtain ⟨s1, s2⟩ := hSw
            go_simp
          refine wpAnyH_take (i := 12) (v := .pointer (some ⟨bl false, f, none⟩)) rfl (by kernel_rfl) (by kernel_rfl) (by kernel_rfl) (fun _ _ _ h => h) (Or.inl ⟨by rfl, ?_⟩) (by assumption) ?_
          · intro w hSw
            obtain ⟨s1, s2⟩ := hSw
            go_simp
          refine wpAnyH_take (i := 14) (v := .int .i64 (k : Int)) rfl (by kernel_rfl) (by kernel_rfl) (by kernel_rfl) (fun _ _ _ h => h) (Or.inl ⟨by rfl, ?_⟩) (by assumption) ?_
          · intro w hSw
            obtain ⟨s1, s2⟩ := hSw
            go_simp
          refine wpAnyH_ready (rs := [13, 15]) (by kernel_rfl) (by simp) ?_
          refine AllReadyH.cons rfl (fun K hK => ?_) (AllReadyH.cons rfl (fun K hK => ?_) AllReadyH.nil)
          · go_simp
            refine hK.out _ _ ⟨a1, e0⟩ (fun hHeld => ?_)
            clear hK K
            refine wpAnyH_ready (rs := [15]) (by kernel_rfl) (by simp) ?_
            refine AllReadyH.cons rfl (fun K hK => ?_) AllReadyH.nil
            go_simp
            refine hK.out _ _ ⟨a1', e0'⟩ (fun hHeld => ?_)
            clear hK K
            refine wpAnyH_ready (rs := [16]) (by kernel_rfl) (by simp) ?_
            refine AllReadyH.cons rfl (fun K hK => ?_) AllReadyH.nil
            refine step_append_int _ (by rfl) (.tmp 35) (.tmp 37) 36 (by rfl) (p + 1) 3 Tryd.underlying36 int_info35 (F false f) (idx (sideE false) E k f) W1.drew k (by rfl) (by rfl) HOWN1.out _ (by rfl) (by rfl) (by have := HIL.out; omega) HROW.out.drew.room ?_
            intro g cap w4 h4 hg4 hat4
            obtain ⟨t1, t2, t3, t4⟩ := HROW.out.drew.append hfn h4 hg4 hat4
            have u1 : w4.cell? ⟨p, 1, none⟩ = some (.slice (some ⟨bl false, 0, none⟩) n n) := (t3.cell (p := ⟨p, 1, none⟩) (Nat.lt_succ_self _)).trans a1
            have u2 : w4.cell? ⟨eb, 0, none⟩ = some (.int .i64 (f : Int)) := (grown_cell hg4 (a := ⟨eb, 0, none⟩) he1z (HFEB.out false f hfn)).trans e0
            refine hK.out _ _ ⟨u1, u2⟩ (fun hHeld => ?_)
            clear hK K
            refine wpAnyH_take (i := 17) (v := .pointer (some ⟨bl false, f, none⟩)) rfl (by kernel_rfl) (by kernel_rfl) (by kernel_rfl) (fun _ _ _ h => h) (Or.inl ⟨by rfl, ?_⟩) (by assumption) ?_
            · intro w hSw
              obtain ⟨s1, s2⟩ := hSw
              go_simp
            refine wpAnyH_ready (rs := [18]) (by kernel_rfl) (by simp) ?_
            refine AllReadyH.cons rfl (fun K hK => ?_) AllReadyH.nil
            have x1 : (w4.setCell ⟨bl false, f, none⟩ (.slice (some ⟨g, 0, none⟩) ((idx (sideE false) E k f).length + 1) cap)).cell? ⟨p, 1, none⟩ = some (.slice (some ⟨bl false, 0, none⟩) n n) := (World.cell?_setCell_other w4 _ _ _ (fun q => by injection q with q; exact HBLP.out false q)).trans u1
            have x2 : (w4.setCell ⟨bl false, f, none⟩ (.slice (some ⟨g, 0, none⟩) ((idx (sideE false) E k f).length + 1) cap)).cell? ⟨eb, 0, none⟩ = some (.int .i64 (f : Int)) := (World.cell?_setCell_other w4 _ _ _ (fun q => by injection q with q; exact HBE.out false q)).trans u2
            go_simp
            refine hK.out _ _ ⟨x1, x2⟩ (fun hHeld => ?_)
            clear hK K
            refine wpAnyH_done (by kernel_rfl) ?_ _
            go_wp2_with fail
            go_meet
            case rel =>
              obtain ⟨y2, y0, y1⟩ := HC2.out
              have m2 := (t3.cell (p := ⟨p, 2, none⟩) (Nat.lt_succ_self _)).trans y2
              have m0 := (t3.cell (p := ⟨p, 0, none⟩) (Nat.lt_succ_self _)).trans y0
              have m1 := (grown_cell hg4 (a := ⟨eb, 1, none⟩) he1z (HFEB.out false f hfn)).trans y1
              have hst := fun (q : Addr) (hq : q.block ≠ bl false) (v : Value) => World.cell?_setCell_other w4 ⟨bl false, f, none⟩ q v (fun e => hq (by rw [← e]))
              refine ⟨rfl, ⟨⟨_, t4.congr (rowsK_side HEK.out false rfl rfl), fun s j hj q => ?_⟩, (hst ⟨p, 0, none⟩ (Ne.symm (HBLP.out false)) _).trans m0, (hst ⟨p, 1, none⟩ (Ne.symm (HBLP.out false)) _).trans u1, (hst ⟨p, 2, none⟩ (Ne.symm (HBLP.out false)) _).trans m2, (hst ⟨eb, 1, none⟩ (Ne.symm (HBE.out false)) _).trans m1, ?_, ?_⟩⟩
              · by_cases e : s = false ∧ j = f
                · obtain ⟨rfl, rfl⟩ := e
                  rw [updF_same] at q
                  have qg : g = eb := by simpa [Value.ownBlock] using q
                  rcases hat4 with hat4 | hat4
                  · exact HFEB.out false j hj (by rw [hat4, qg])
                  · have hat5 : W1.heap.size ≤ g := hat4
                    omega
                · rw [updF_other e] at q
                  exact HFEB.out s j hj q
              · exact (HB1.out.drew.trans (t3.mono (by omega))).setCell (p := ⟨bl false, f, none⟩) hbl0 _
              · have := t3.size
                show eb < (w4.setCell _ _).heap.size
                simp
                have e6 : W1.heap.size ≤ w4.heap.size := this
                omega
          · go_simp
            refine hK.out _ _ ⟨a1', e0'⟩ (fun hHeld => ?_)
            clear hK K
            refine wpAnyH_ready (rs := [13]) (by kernel_rfl) (by simp) ?_
            refine AllReadyH.cons rfl (fun K hK => ?_) AllReadyH.nil
            go_simp
            refine hK.out _ _ ⟨a1', e0'⟩ (fun hHeld => ?_)
            clear hK K
            refine wpAnyH_ready (rs := [16]) (by kernel_rfl) (by simp) ?_
            refine AllReadyH.cons rfl (fun K hK => ?_) AllReadyH.nil
            refine step_append_int _ (by rfl) (.tmp 35) (.tmp 37) 36 (by rfl) (p + 1) 3 Tryd.underlying36 int_info35 (F false f) (idx (sideE false) E k f) W1.drew k (by rfl) (by rfl) HOWN1.out _ (by rfl) (by rfl) (by have := HIL.out; omega) HROW.out.drew.room ?_
            intro g cap w4 h4 hg4 hat4
            obtain ⟨t1, t2, t3, t4⟩ := HROW.out.drew.append hfn h4 hg4 hat4
            have u1 : w4.cell? ⟨p, 1, none⟩ = some (.slice (some ⟨bl false, 0, none⟩) n n) := (t3.cell (p := ⟨p, 1, none⟩) (Nat.lt_succ_self _)).trans a1
            have u2 : w4.cell? ⟨eb, 0, none⟩ = some (.int .i64 (f : Int)) := (grown_cell hg4 (a := ⟨eb, 0, none⟩) he1z (HFEB.out false f hfn)).trans e0
            refine hK.out _ _ ⟨u1, u2⟩ (fun hHeld => ?_)
            clear hK K
            refine wpAnyH_take (i := 17) (v := .pointer (some ⟨bl false, f, none⟩)) rfl (by kernel_rfl) (by kernel_rfl) (by kernel_rfl) (fun _ _ _ h => h) (Or.inl ⟨by rfl, ?_⟩) (by assumption) ?_
            · intro w hSw
              obtain ⟨s1, s2⟩ := hSw
              go_simp
            refine wpAnyH_ready (rs := [18]) (by kernel_rfl) (by simp) ?_
            refine AllReadyH.cons rfl (fun K hK => ?_) AllReadyH.nil
            have x1 : (w4.setCell ⟨bl false, f, none⟩ (.slice (some ⟨g, 0, none⟩) ((idx (sideE false) E k f).length + 1) cap)).cell? ⟨p, 1, none⟩ = some (.slice (some ⟨bl false, 0, none⟩) n n) := (World.cell?_setCell_other w4 _ _ _ (fun q => by injection q with q; exact HBLP.out false q)).trans u1
            have x2 : (w4.setCell ⟨bl false, f, none⟩ (.slice (some ⟨g, 0, none⟩) ((idx (sideE false) E k f).length + 1) cap)).cell? ⟨eb, 0, none⟩ = some (.int .i64 (f : Int)) := (World.cell?_setCell_other w4 _ _ _ (fun q => by injection q with q; exact HBE.out false q)).trans u2
            go_simp
            refine hK.out _ _ ⟨x1, x2⟩ (fun hHeld => ?_)
            clear hK K
            refine wpAnyH_done (by kernel_rfl) ?_ _
            go_wp2_with fail
            go_meet
            case rel =>
              obtain ⟨y2, y0, y1⟩ := HC2.out
              have m2 := (t3.cell (p := ⟨p, 2, none⟩) (Nat.lt_succ_self _)).trans y2
              have m0 := (t3.cell (p := ⟨p, 0, none⟩) (Nat.lt_succ_self _)).trans y0
              have m1 := (grown_cell hg4 (a := ⟨eb, 1, none⟩) he1z (HFEB.out false f hfn)).trans y1
              have hst := fun (q : Addr) (hq : q.block ≠ bl false) (v : Value) => World.cell?_setCell_other w4 ⟨bl false, f, none⟩ q v (fun e => hq (by rw [← e]))
              refine ⟨rfl, ⟨⟨_, t4.congr (rowsK_side HEK.out false rfl rfl), fun s j hj q => ?_⟩, (hst ⟨p, 0, none⟩ (Ne.symm (HBLP.out false)) _).trans m0, (hst ⟨p, 1, none⟩ (Ne.symm (HBLP.out false)) _).trans u1, (hst ⟨p, 2, none⟩ (Ne.symm (HBLP.out false)) _).trans m2, (hst ⟨eb, 1, none⟩ (Ne.symm (HBE.out false)) _).trans m1, ?_, ?_⟩⟩
              · by_cases e : s = false ∧ j = f
                · obtain ⟨rfl, rfl⟩ := e
                  rw [updF_same] at q
                  have qg : g = eb := by simpa [Value.ownBlock] using q
                  rcases hat4 with hat4 | hat4
                  · exact HFEB.out false j hj (by rw [hat4, qg])
                  · have hat5 : W1.heap.size ≤ g := hat4
                    omega
                · rw [updF_other e] at q
                  exact HFEB.out s j hj q
              · exact (HB1.out.drew.trans (t3.mono (by omega))).setCell (p := ⟨bl false, f, none⟩) hbl0 _
              · have := t3.size
                show eb < (w4.setCell _ _).heap.size
                simp
                have e6 : W1.heap.size ≤ w4.heap.size := this
                omega
        case rest =>
          obtain ⟨rfl, hhalf⟩ := hcut
          have HHALF := Lib.hid hhalf
          obtain ⟨F1, hrow1, hFeb1⟩ := hhalf.rows
          have a2 := hhalf.c2
          have e1 := hhalf.ce
          have he2z := hhalf.lt
          have hp2z : p < wc.heap.size := by have := hrow1.room; omega
          have a2' : (wc.alloc (.cells #[.int .i64 (k : Int)] 3)).cell? ⟨p, 2, none⟩ = some (.slice (some ⟨bl true, 0, none⟩) n n) := (World.cell?_alloc_lt wc _ ⟨p, 2, none⟩ hp2z).trans a2
          have e1' : (wc.alloc (.cells #[.int .i64 (k : Int)] 3)).cell? ⟨eb, 1, none⟩ = some (.int .i64 (t : Int)) := (World.cell?_alloc_lt wc _ ⟨eb, 1, none⟩ he2z).trans e1
          have q1 := hrow1.cell true t htn
          have q2 := (hrow1.alloc (.cells #[.int .i64 (k : Int)] 3)).cell true t htn
          have HIL2 : Hid ((rowsK E (k + 1) k true t).length ≤ k) := Lib.hid (idx_len (sideE true) E k t)
          have hown2 := hrow1.drew.own true t htn
          have HOWN2 := Lib.hid hown2
          have HROW2 := Lib.hid hrow1
          have HFEB2 := Lib.hid hFeb1
          have HB2 := Lib.hid hhalf.below
          clear hhalf hrow1 hFeb1 hown2 a1 e0 r1 r2 a1' e0' HROW HOWN1 HIL HFEB HR HC2 HB1
          go_wp2_with fail
          refine wp_region_held_drew (S := (fun w' => w'.cell? ⟨p, 2, none⟩ = some (.slice (some ⟨bl true, 0, none⟩) n n) ∧ w'.cell? ⟨eb, 1, none⟩ = some (.int .i64 (t : Int)))) (by kernel_rfl) ⟨a2, e1⟩ (fun hHeld => ?_)
          refine wpAnyH_take (i := 0) (v := .pointer (some ⟨p, 0, none⟩)) rfl (by kernel_rfl) (by kernel_rfl) (by kernel_rfl) (fun _ _ _ h => h) (Or.inl ⟨by rfl, ?_⟩) (by assumption) ?_
          · intro w hSw
            obtain ⟨s1, s2⟩ := hSw
            go_simp
          refine wpAnyH_take (i := 1) (v := .pointer (some ⟨p, 0, none⟩)) rfl (by kernel_rfl) (by kernel_rfl) (by kernel_rfl) (fun _ _ _ h => h) (Or.inl ⟨by rfl, ?_⟩) (by assumption) ?_
          · intro w hSw
            obtain ⟨s1, s2⟩ := hSw
            go_simp
          refine wpAnyH_take (i := 2) (v := .pointer (some ⟨p, 2, none⟩)) rfl (by kernel_rfl) (by kernel_rfl) (by kernel_rfl) (fun _ _ _ h => h) (Or.inl ⟨by rfl, ?_⟩) (by assumption) ?_
          · intro w hSw
            obtain ⟨s1, s2⟩ := hSw
            go_simp
          refine wpAnyH_take (i := 3) (v := .slice (some ⟨bl true, 0, none⟩) n n) rfl (by kernel_rfl) (by kernel_rfl) (by kernel_rfl) (fun _ _ _ h => h) (Or.inl ⟨by rfl, ?_⟩) (by assumption) ?_
          · intro w hSw
            obtain ⟨s1, s2⟩ := hSw
            go_simp
          refine wpAnyH_take (i := 4) (v := .pointer (some ⟨eb, 1, none⟩)) rfl (by kernel_rfl) (by kernel_rfl) (by kernel_rfl) (fun _ _ _ h => h) (Or.inl ⟨by rfl, ?_⟩) (by assumption) ?_
          · intro w hSw
            obtain ⟨s1, s2⟩ := hSw
            go_simp
          refine wpAnyH_take (i := 5) (v := .int .i64 (t : Int)) rfl (by kernel_rfl) (by kernel_rfl) (by kernel_rfl) (fun _ _ _ h => h) (Or.inl ⟨by rfl, ?_⟩) (by assumption) ?_
          · intro w hSw
            obtain ⟨s1, s2⟩ := hSw
            go_simp
          refine wpAnyH_take (i := 6) (v := .pointer (some ⟨p, 0, none⟩)) rfl (by kernel_rfl) (by kernel_rfl) (by kernel_rfl) (fun _ _ _ h => h) (Or.inl ⟨by rfl, ?_⟩) (by assumption) ?_
          · intro w hSw
            obtain ⟨s1, s2⟩ := hSw
            go_simp
          refine wpAnyH_take (i := 7) (v := .pointer (some ⟨p, 0, none⟩)) rfl (by kernel_rfl) (by kernel_rfl) (by kernel_rfl) (fun _ _ _ h => h) (Or.inl ⟨by rfl, ?_⟩) (by assumption) ?_
          · intro w hSw
            obtain ⟨s1, s2⟩ := hSw
            go_simp
          refine wpAnyH_take (i := 8) (v := .pointer (some ⟨p, 2, none⟩)) rfl (by kernel_rfl) (by kernel_rfl) (by kernel_rfl) (fun _ _ _ h => h) (Or.inl ⟨by rfl, ?_⟩) (by assumption) ?_
          · intro w hSw
            obtain ⟨s1, s2⟩ := hSw
            go_simp
          refine wpAnyH_take (i := 9) (v := .slice (some ⟨bl true, 0, none⟩) n n) rfl (by kernel_rfl) (by kernel_rfl) (by kernel_rfl) (fun _ _ _ h => h) (Or.inl ⟨by rfl, ?_⟩) (by assumption) ?_
          · intro w hSw
            obtain ⟨s1, s2⟩ := hSw
            go_simp
          refine wpAnyH_take (i := 10) (v := .pointer (some ⟨eb, 1, none⟩)) rfl (by kernel_rfl) (by kernel_rfl) (by kernel_rfl) (fun _ _ _ h => h) (Or.inl ⟨by rfl, ?_⟩) (by assumption) ?_
          · intro w hSw
            obtain ⟨s1, s2⟩ := hSw
            go_simp
          refine wpAnyH_take (i := 11) (v := .int .i64 (t : Int)) rfl (by kernel_rfl) (by kernel_rfl) (by kernel_rfl) (fun _ _ _ h => h) (Or.inl ⟨by rfl, ?_⟩) (by assumption) ?_
          · intro w hSw
            obtain ⟨s1, s2⟩ := hSw
            go_simp
          refine wpAnyH_take (i := 12) (v := .pointer (some ⟨bl true, t, none⟩)) rfl (by kernel_rfl) (by kernel_rfl) (by kernel_rfl) (fun _ _ _ h => h) (Or.inl ⟨by rfl, ?_⟩) (by assumption) ?_
          · intro w hSw
            obtain ⟨s1, s2⟩ := hSw
            go_simp
          refine wpAnyH_take (i := 14) (v := .int .i64 (k : Int)) rfl (by kernel_rfl) (by kernel_rfl) (by kernel_rfl) (fun _ _ _ h => h) (Or.inl ⟨by rfl, ?_⟩) (by assumption) ?_
          · intro w hSw
            obtain ⟨s1, s2⟩ := hSw
            go_simp
          refine wpAnyH_ready (rs := [13, 15]) (by kernel_rfl) (by simp) ?_
          refine AllReadyH.cons rfl (fun K hK => ?_) (AllReadyH.cons rfl (fun K hK => ?_) AllReadyH.nil)
          · go_simp
            refine hK.out _ _ ⟨a2, e1⟩ (fun hHeld => ?_)
            clear hK K
            refine wpAnyH_ready (rs := [15]) (by kernel_rfl) (by simp) ?_
            refine AllReadyH.cons rfl (fun K hK => ?_) AllReadyH.nil
            go_simp
            refine hK.out _ _ ⟨a2', e1'⟩ (fun hHeld => ?_)
            clear hK K
            refine wpAnyH_ready (rs := [16]) (by kernel_rfl) (by simp) ?_
            refine AllReadyH.cons rfl (fun K hK => ?_) AllReadyH.nil
            refine step_append_int _ (by rfl) (.tmp 53) (.tmp 55) 36 (by rfl) (p + 1) 3 Tryd.underlying36 int_info35 (F1 true t) (rowsK E (k + 1) k true t) wc.drew k (by rfl) (by rfl) HOWN2.out _ (by rfl) (by rfl) (by have := HIL2.out; omega) HROW2.out.drew.room ?_
            intro g cap w4 h4 hg4 hat4
            obtain ⟨t1, t2, t3, t4⟩ := HROW2.out.drew.append htn h4 hg4 hat4
            have u1 : w4.cell? ⟨p, 2, none⟩ = some (.slice (some ⟨bl true, 0, none⟩) n n) := (t3.cell (p := ⟨p, 2, none⟩) (Nat.lt_succ_self _)).trans a2
            have u2 : w4.cell? ⟨eb, 1, none⟩ = some (.int .i64 (t : Int)) := (grown_cell hg4 (a := ⟨eb, 1, none⟩) he2z (HFEB2.out true t htn)).trans e1
            refine hK.out _ _ ⟨u1, u2⟩ (fun hHeld => ?_)
            clear hK K
            refine wpAnyH_take (i := 17) (v := .pointer (some ⟨bl true, t, none⟩)) rfl (by kernel_rfl) (by kernel_rfl) (by kernel_rfl) (fun _ _ _ h => h) (Or.inl ⟨by rfl, ?_⟩) (by assumption) ?_
            · intro w hSw
              obtain ⟨s1, s2⟩ := hSw
              go_simp
            refine wpAnyH_ready (rs := [18]) (by kernel_rfl) (by simp) ?_
            refine AllReadyH.cons rfl (fun K hK => ?_) AllReadyH.nil
            have x1 : (w4.setCell ⟨bl true, t, none⟩ (.slice (some ⟨g, 0, none⟩) ((rowsK E (k + 1) k true t).length + 1) cap)).cell? ⟨p, 2, none⟩ = some (.slice (some ⟨bl true, 0, none⟩) n n) := (World.cell?_setCell_other w4 _ _ _ (fun q => by injection q with q; exact HBLP.out true q)).trans u1
            have x2 : (w4.setCell ⟨bl true, t, none⟩ (.slice (some ⟨g, 0, none⟩) ((rowsK E (k + 1) k true t).length + 1) cap)).cell? ⟨eb, 1, none⟩ = some (.int .i64 (t : Int)) := (World.cell?_setCell_other w4 _ _ _ (fun q => by injection q with q; exact HBE.out true q)).trans u2
            go_simp
            refine hK.out _ _ ⟨x1, x2⟩ (fun hHeld => ?_)
            clear hK K
            refine wpAnyH_done (by kernel_rfl) ?_ _
            go_wp2_with fail
            go_roundw
            case rel =>
              have m1 := (t3.cell (p := ⟨p, 1, none⟩) (Nat.lt_succ_self _)).trans HHALF.out.c1
              have m0 := (t3.cell (p := ⟨p, 0, none⟩) (Nat.lt_succ_self _)).trans HHALF.out.c0
              have hst := fun (q : Addr) (hq : q.block ≠ bl true) (v : Value) => World.cell?_setCell_other w4 ⟨bl true, t, none⟩ q v (fun e => hq (by rw [← e]))
              refine ⟨k + 1, by omega, by go_num, ⟨⟨bl, _, hbl0, hbl1, t4.congr (rowsK_side HEK.out true rfl rfl), (hst ⟨p, 1, none⟩ (Ne.symm (HBLP.out true)) _).trans m1, (hst ⟨p, 2, none⟩ (Ne.symm (HBLP.out true)) _).trans u1, HBLP.out⟩, (hst ⟨p, 0, none⟩ (Ne.symm (HBLP.out true)) _).trans m0, ?_⟩⟩
              exact (HB2.out.drew.trans (t3.mono (by omega))).setCell (p := ⟨bl true, t, none⟩) hbl1 _
            case measure => simp [intOf]; omega
          · go_simp
            refine hK.out _ _ ⟨a2', e1'⟩ (fun hHeld => ?_)
            clear hK K
            refine wpAnyH_ready (rs := [13]) (by kernel_rfl) (by simp) ?_
            refine AllReadyH.cons rfl (fun K hK => ?_) AllReadyH.nil
            go_simp
            refine hK.out _ _ ⟨a2', e1'⟩ (fun hHeld => ?_)
            clear hK K
            refine wpAnyH_ready (rs := [16]) (by kernel_rfl) (by simp) ?_
            refine AllReadyH.cons rfl (fun K hK => ?_) AllReadyH.nil
            refine step_append_int _ (by rfl) (.tmp 53) (.tmp 55) 36 (by rfl) (p + 1) 3 Tryd.underlying36 int_info35 (F1 true t) (rowsK E (k + 1) k true t) wc.drew k (by rfl) (by rfl) HOWN2.out _ (by rfl) (by rfl) (by have := HIL2.out; omega) HROW2.out.drew.room ?_
            intro g cap w4 h4 hg4 hat4
            obtain ⟨t1, t2, t3, t4⟩ := HROW2.out.drew.append htn h4 hg4 hat4
            have u1 : w4.cell? ⟨p, 2, none⟩ = some (.slice (some ⟨bl true, 0, none⟩) n n) := (t3.cell (p := ⟨p, 2, none⟩) (Nat.lt_succ_self _)).trans a2
            have u2 : w4.cell? ⟨eb, 1, none⟩ = some (.int .i64 (t : Int)) := (grown_cell hg4 (a := ⟨eb, 1, none⟩) he2z (HFEB2.out true t htn)).trans e1
            refine hK.out _ _ ⟨u1, u2⟩ (fun hHeld => ?_)
            clear hK K
            refine wpAnyH_take (i := 17) (v := .pointer (some ⟨bl true, t, none⟩)) rfl (by kernel_rfl) (by kernel_rfl) (by kernel_rfl) (fun _ _ _ h => h) (Or.inl ⟨by rfl, ?_⟩) (by assumption) ?_
            · intro w hSw
              obtain ⟨s1, s2⟩ := hSw
              go_simp
            refine wpAnyH_ready (rs := [18]) (by kernel_rfl) (by simp) ?_
            refine AllReadyH.cons rfl (fun K hK => ?_) AllReadyH.nil
            have x1 : (w4.setCell ⟨bl true, t, none⟩ (.slice (some ⟨g, 0, none⟩) ((rowsK E (k + 1) k true t).length + 1) cap)).cell? ⟨p, 2, none⟩ = some (.slice (some ⟨bl true, 0, none⟩) n n) := (World.cell?_setCell_other w4 _ _ _ (fun q => by injection q with q; exact HBLP.out true q)).trans u1
            have x2 : (w4.setCell ⟨bl true, t, none⟩ (.slice (some ⟨g, 0, none⟩) ((rowsK E (k + 1) k true t).length + 1) cap)).cell? ⟨eb, 1, none⟩ = some (.int .i64 (t : Int)) := (World.cell?_setCell_other w4 _ _ _ (fun q => by injection q with q; exact HBE.out true q)).trans u2
            go_simp
            refine hK.out _ _ ⟨x1, x2⟩ (fun hHeld => ?_)
            clear hK K
            refine wpAnyH_done (by kernel_rfl) ?_ _
            go_wp2_with fail
            go_roundw
            case rel =>
              have m1 := (t3.cell (p := ⟨p, 1, none⟩) (Nat.lt_succ_self _)).trans HHALF.out.c1
              have m0 := (t3.cell (p := ⟨p, 0, none⟩) (Nat.lt_succ_self _)).trans HHALF.out.c0
              have hst := fun (q : Addr) (hq : q.block ≠ bl true) (v : Value) => World.cell?_setCell_other w4 ⟨bl true, t, none⟩ q v (fun e => hq (by rw [← e]))
              refine ⟨k + 1, by omega, by go_num, ⟨⟨bl, _, hbl0, hbl1, t4.congr (rowsK_side HEK.out true rfl rfl), (hst ⟨p, 1, none⟩ (Ne.symm (HBLP.out true)) _).trans m1, (hst ⟨p, 2, none⟩ (Ne.symm (HBLP.out true)) _).trans u1, HBLP.out⟩, (hst ⟨p, 0, none⟩ (Ne.symm (HBLP.out true)) _).trans m0, ?_⟩⟩
              exact (HB2.out.drew.trans (t3.mono (by omega))).setCell (p := ⟨bl true, t, none⟩) hbl1 _
            case measure => simp [intOf]; omega
      · have hkk : k = E.length := by omega
        subst hkk
        go_wp2_with fail
        go_ret
        obtain ⟨bl, F, _, _, hrows, hp1, hp2, hblp⟩ := HAT.out.rows
        have hsz := hrows.room
        refine ⟨p, rfl, ⟨by omega, ⟨A, c, HAT.out.edges, (HE.out.below HAT.out.below).more (HAT.out.below.size), hc, hc2⟩, ⟨bl false, by have := hrows.low false; omega, hp1, fun j hj => ?_⟩, ⟨_, hp2⟩⟩, by omega, HAT.out.below⟩
        obtain ⟨A', c', hv, hsl⟩ := (hrows.own false j hj).sl
        have hcell := hrows.cell false j hj
        have hown := hrows.own false j hj
        rw [hv] at hcell hown
        exact ⟨A', c', hcell, hsl, (caps_row hown).2.1⟩
end
end Go.Proofs.YtimijjhdgihobaaDoor
