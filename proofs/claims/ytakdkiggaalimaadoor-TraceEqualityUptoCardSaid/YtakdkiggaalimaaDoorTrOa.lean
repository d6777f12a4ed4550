/-
  How actions and events come in, with all that their slices hold (printed by gentroa.py).
-/
import Derived.Test.YtakdkiggaalimaaDoorTrOe
import Derived.Test.YtakdkiggaalimaaDoorRows
import Derived.Test.YtakdkiggaalimaaDoorTrVa
namespace Go.Proofs.YtakdkiggaalimaaDoor
open Go.ChangeShapes Go.WideShapes Go.ChangeAt Go.RowKit

theorem wf64 {z : Int} (h : (Lit.int .i64 z).wf = true) : Is64 z := by
  have h1 : IntKind.i64.min = -9223372036854775808 := rfl
  have h2 : IntKind.i64.max = 9223372036854775807 := rfl
  simp only [Lit.wf, h1, h2, Bool.and_eq_true, decide_eq_true_eq] at h
  exact h
theorem wf8 {z : Int} (h : (Lit.int .u8 z).wf = true) : 0 ≤ z ∧ z ≤ 255 := by
  have h1 : IntKind.u8.min = 0 := rfl
  have h2 : IntKind.u8.max = 255 := rfl
  simp only [Lit.wf, h1, h2, Bool.and_eq_true, decide_eq_true_eq] at h
  exact h
structure SrcWf (N : Nat) (s : SrcM) : Prop where
  kind : Is64 s.kind
  len : s.nodes.length ≤ N
  vs : ∀ v ∈ s.nodes, Is64 v
/-- the numbers are int64, the lists are no longer than N. -/
structure ActWf (N : Nat) (a : ActM) : Prop where
  kind : Is64 a.kind
  who : Is64 a.who
  n : Is64 a.n
  call : Is64 a.call
  other : Is64 a.other
  node : Is64 a.node
  slen : a.srcs.length ≤ N
  srcs : ∀ s ∈ a.srcs, SrcWf N s
  glen : a.groups.length ≤ N
  groups : ∀ v ∈ a.groups, Is64 v
structure EvWf (N : Nat) (e : EvM) : Prop where
  kind : Is64 e.kind
  tick : Is64 e.tick
  who : Is64 e.who
  call : Is64 e.call
  epoch : Is64 e.epoch
  n : Is64 e.n
  eterm : Is64 e.eterm
  ekind : Is64 e.ekind
  blen : e.ebody.length ≤ N
  ord : Is64 e.ord.unit ∧ Is64 e.ord.epoch ∧ Is64 e.ord.kind ∧ Is64 e.ord.incident ∧ Is64 e.ord.node
  sta : Is64 e.sta.unit ∧ Is64 e.sta.seq ∧ Is64 e.sta.state ∧ Is64 e.sta.node ∧ Is64 e.sta.epoch
  act : ActWf N e.act
  bytes : e.bytes.length ≤ N
theorem SrcWf.mono {N M : Nat} {s : SrcM} (h : SrcWf N s) (hN : N ≤ M) : SrcWf M s := ⟨h.kind, Nat.le_trans h.len hN, h.vs⟩
theorem ActWf.mono {N M : Nat} {a : ActM} (h : ActWf N a) (hN : N ≤ M) : ActWf M a := ⟨h.kind, h.who, h.n, h.call, h.other, h.node, Nat.le_trans h.slen hN, fun s hs => (h.srcs s hs).mono hN, Nat.le_trans h.glen hN, h.groups⟩
theorem EvWf.mono {N M : Nat} {e : EvM} (h : EvWf N e) (hN : N ≤ M) : EvWf M e := ⟨h.kind, h.tick, h.who, h.call, h.epoch, h.n, h.eterm, h.ekind, Nat.le_trans h.blen hN, h.ord, h.sta, h.act.mono hN, Nat.le_trans h.bytes hN⟩
theorem ActWf.l {N : Nat} {a : ActM} (h : ActWf N a) (hN : N ≤ 9223372036854775807) : ActL a := ⟨Nat.le_trans h.slen hN, fun s hs => Nat.le_trans (h.srcs s hs).len hN, Nat.le_trans h.glen hN⟩
theorem size_parts {a : ActM} {n : Nat} (h : actSize a.con ≤ n) : a.groups.length ≤ n ∧ a.srcs.length ≤ n ∧ ∀ s ∈ a.srcs, s.nodes.length ≤ n := by
  have e : actSize a.con = a.groups.length + ((a.srcs.map SrcM.con).map (fun s => s.nodes.length + 1)).sum := rfl
  rw [e, List.map_map] at h
  have h1 : ∀ l : List SrcM, l.length ≤ (l.map ((fun s : SrcC => s.nodes.length + 1) ∘ SrcM.con)).sum ∧ ∀ s ∈ l, s.nodes.length ≤ (l.map ((fun s : SrcC => s.nodes.length + 1) ∘ SrcM.con)).sum := by
    intro l
    induction l with
    | nil => exact ⟨Nat.zero_le _, fun s hs => by cases hs⟩
    | cons x r ih =>
      have hx : ((fun s : SrcC => s.nodes.length + 1) ∘ SrcM.con) x = x.nodes.length + 1 := rfl
      rw [List.map_cons, List.sum_cons, hx, List.length_cons]
      refine ⟨by have := ih.1; omega, fun s hs => ?_⟩
      rcases List.mem_cons.1 hs with rfl | hs
      · omega
      · have := ih.2 s hs
        omega
  have h2 := h1 a.srcs
  exact ⟨by omega, by have := h2.1; omega, fun s hs => by have := h2.2 s hs; omega⟩
theorem ActWf.r {N : Nat} {a : ActM} (h : ActWf N a) (hs : actSize a.con ≤ 100000) : ActR a.con := by
  obtain ⟨h1, h2, h3⟩ := size_parts hs
  refine ⟨h.kind, h.who, h.n, h.call, h.other, h.node, ?_, fun s hs => ?_, ?_, h.groups⟩
  · show (a.srcs.map SrcM.con).length ≤ _
    rw [List.length_map]
    omega
  · obtain ⟨x, hx, rfl⟩ := List.mem_map.1 hs
    exact ⟨(h.srcs x hx).kind, Nat.le_trans (h3 x hx) (by decide), (h.srcs x hx).vs⟩
  · show a.groups.length ≤ _
    omega
theorem EvWf.r {N : Nat} {e : EvM} (h : EvWf N e) (hs : actSize e.act.con ≤ 100000) (hb : e.ebody.length ≤ 100000) : EvR e.con :=
  ⟨h.kind, h.tick, h.who, h.call, h.epoch, h.n, h.eterm, h.ekind, Nat.le_trans hb (by decide), h.ord, h.sta, h.act.r hs⟩
section
variable {H : Type} {enc : TypeId × Value → H}
theorem bytes_of (zs : List Int) (h : ∀ z ∈ zs, 0 ≤ z ∧ z ≤ 255) : Lib.byteCells (zs.map (fun z => UInt8.ofNat z.toNat)) = zs.map (Value.int .u8) := by
  induction zs with
  | nil => rfl
  | cons z r ih =>
    have h1 := h z (by simp)
    have e : (((UInt8.ofNat z.toNat).toNat : Nat) : Int) = z := by
      rw [UInt8.toNat_ofNat_of_lt' (by show z.toNat < 256; omega)]
      omega
    show Value.int .u8 (((UInt8.ofNat z.toNat).toNat : Nat) : Int) :: Lib.byteCells (r.map (fun z => UInt8.ofNat z.toNat)) = _
    rw [e, ih (fun x hx => h x (by simp [hx]))]
    rfl
theorem bulk_one (d : DataW H) : 1 ≤ Rows.uptoBulk d := by
  cases d with
  | lit l => cases l <;> simp [Rows.uptoBulk]
  | nil => simp [Rows.uptoBulk]
  | ptr d => simp [Rows.uptoBulk]
  | slice elems spare => simp [Rows.uptoBulk]
  | agg parts => simp [Rows.uptoBulk]
  | iface t d => simp [Rows.uptoBulk]
  | map entries => simp [Rows.uptoBulk]
  | held h => simp [Rows.uptoBulk]
theorem bulk_length (l : List (DataW H)) : l.length ≤ Rows.uptoBulkAll l := by
  induction l with
  | nil => simp [Rows.uptoBulkAll]
  | cons x r ih =>
    have := bulk_one x
    simp only [Rows.uptoBulkAll, List.length_cons]
    omega
theorem bulk_in {d : DataW H} : ∀ {l : List (DataW H)}, d ∈ l → Rows.uptoBulk d ≤ Rows.uptoBulkAll l
  | x :: r, h => by
    simp only [Rows.uptoBulkAll]
    rcases List.mem_cons.1 h with rfl | h
    · omega
    · have := bulk_in h
      omega
theorem bulk_part {x : DataW H × List MemPlace} {xs : List (DataW H × List MemPlace)} {p : List MemPlace} (hx : x = (.agg (xs.map (·.1)), p)) {y : DataW H × List MemPlace} (hy : y ∈ xs) : Rows.uptoBulk y.1 ≤ Rows.uptoBulk x.1 := by
  subst hx
  have h := bulk_in (List.mem_map_of_mem (f := (·.1)) hy)
  simp only [Rows.uptoBulk]
  omega
theorem bulk_field {W : World} {t e : TypeId} {A : Option Addr} {n cap base fuel : Nat} {spare : Nat → Bool} {held : Bool} {x : DataW H × List MemPlace} (ht : Tryd.prog.underlying t = some (.slice e)) (hf : DataW.trod enc Tryd.prog W base spare held fuel t [.slice A n cap] = some x) : n ≤ Rows.uptoBulk x.1 := by
  rcases Go.Deep.open_slice ht hf with ⟨hcs, _⟩ | ⟨a, len, cap', m, n', D, Pl, hcs, _, _, _, _, hx, _⟩
  · simp at hcs
    omega
  · simp at hcs
    subst hx
    have h1 := bulk_length ((List.range len).map D)
    simp only [List.length_map, List.length_range] at h1
    simp only [Rows.uptoBulk]
    omega
/-- a slice of structs: each element's cells and its own reading, which is of no more bulk. -/
theorem recs_bulk {W : World} {t e : TypeId} {C : Nat} {v : Value} {x : DataW H × List MemPlace} {base fuel : Nat} {spare : Nat → Bool} {held : Bool}
    (ht : Tryd.prog.underlying t = some (.slice e)) (hC : Tryd.prog.cellsOf e = C) (hpos : 0 < C) (hf : DataW.trod enc Tryd.prog W base spare held fuel t [v] = some x) :
    ∃ (A : Option Addr) (n cap : Nat), v = .slice A n cap ∧ n ≤ cap ∧ cap ≤ 9223372036854775807 ∧ (A = none → cap = 0) ∧
      ∀ i, i < n → ∃ b o cs, A = some ⟨b, o, none⟩ ∧ b < W.heap.size ∧ cs.length = C ∧ (∀ (j : Nat) (u : Value), cs[j]? = some u → W.cell? ⟨b, o + i * C + j, none⟩ = some u) ∧ ∃ (y : DataW H × List MemPlace) (m : Nat), DataW.trod enc Tryd.prog W base spare held m e cs = some y ∧ Rows.uptoBulk y.1 ≤ Rows.uptoBulk x.1 := by
  subst hC
  rcases Go.Deep.open_slice ht hf with ⟨hcs, _⟩ | ⟨a, len, cap, m, n, D, Pl, hcs, hb, hl, hm, hmm, hx, hi⟩
  · simp at hcs
    subst hcs
    exact ⟨none, 0, 0, rfl, by omega, by omega, fun _ => rfl, fun i h => absurd h (by omega)⟩
  · simp at hcs
    subst hcs
    refine ⟨some a, len, cap, rfl, hl, by unfold maxLen at hm; omega, (fun h => by cases h), fun i hil => ?_⟩
    have hml : len ≤ m := by
      rw [hmm]
      split <;> omega
    obtain ⟨cs', hc, ht'⟩ := hi i (by omega)
    obtain ⟨_, hcl, hat⟩ := World.cells?_some hc
    obtain ⟨cs0, hc0, _⟩ := hi 0 (by omega)
    obtain ⟨_, hcl0, hat0⟩ := World.cells?_some hc0
    have h0 := hat0 0 hpos
    rw [List.getElem?_eq_getElem (by omega), Nat.zero_mul] at h0
    have hs0 : a.spot = none := by simpa [Addr.add] using World.cell?_spot h0
    have hlt : a.block < W.heap.size := by simpa [Addr.add] using World.block_lt_of_cell? W _ h0
    refine ⟨a.block, a.off, cs', by cases a; simp at hs0; simp [hs0], hlt, hcl, fun j u hj => ?_, _, _, ht', ?_⟩
    · have hjl : j < Tryd.prog.cellsOf e := by rw [← hcl]; exact (List.getElem?_eq_some_iff.1 hj).1
      have h1 := (hat j hjl).trans hj
      rw [Go.Deep.add_add] at h1
      have := add_at h1 hs0
      rw [Nat.add_assoc]
      exact this
    · have hd := bulk_in (l := (List.range len).map D) (List.mem_map.2 ⟨i, List.mem_range.2 hil, rfl⟩)
      rw [hx]
      simp only [Rows.uptoBulk]
      omega
theorem nodes_field {W : World} {v : Value} {x : DataW H × List MemPlace} {base fuel : Nat} {spare : Nat → Bool} {held : Bool} (hf : DataW.trod enc Tryd.prog W base spare held fuel 29 [v] = some x) :
    ∃ (A : Option Addr) (zs : List Int) (cap : Nat), v = .slice A zs.length cap ∧ IntsAt W W.heap.size A zs ∧ zs.length ≤ Rows.uptoBulk x.1 ∧ ∀ z ∈ zs, Is64 z := by
  obtain ⟨A, zs, cap, e, h1, h2, h3, h4, _⟩ := ints_field Tryd.underlying29 Tryd.underlying3 (by kernel_rfl) hf
  subst e
  exact ⟨A, zs, cap, rfl, h1, bulk_field Tryd.underlying29 hf, fun z hz => wf64 (h2 z hz)⟩
theorem bytes_field {W : World} {v : Value} {x : DataW H × List MemPlace} {base fuel : Nat} {spare : Nat → Bool} {held : Bool} (hf : DataW.trod enc Tryd.prog W base spare held fuel 30 [v] = some x) :
    ∃ (A : Option Addr) (l : List UInt8) (cap : Nat), v = .slice A l.length cap ∧ BytesAt W W.heap.size A l ∧ l.length ≤ Rows.uptoBulk x.1 := by
  obtain ⟨A, zs, cap, e, h1, h2, h3, h4, _⟩ := ints_field Tryd.underlying30 Tryd.underlying5 (by kernel_rfl) hf
  subst e
  refine ⟨A, zs.map (fun z => UInt8.ofNat z.toNat), cap, by rw [List.length_map], ?_, by rw [List.length_map]; exact bulk_field Tryd.underlying30 hf⟩
  unfold BytesAt
  rw [bytes_of zs (fun z hz => wf8 (h2 z hz))]
  exact h1
set_option maxRecDepth 100000 in
theorem src_open {W : World} {cs : List Value} {x : DataW H × List MemPlace} {base fuel : Nat} {spare : Nat → Bool} {held : Bool} (hl : cs.length = 2) (hf : DataW.trod enc Tryd.prog W base spare held fuel 73 cs = some x) : ∃ s : SrcM, srcCs s = cs ∧ IntsAt W W.heap.size s.nA s.nodes ∧ SrcWf (Rows.uptoBulk x.1) s := by
  match cs, hl with
  | [c0, c1], _ =>
    obtain ⟨xs, n, _, hx, _, hlen, hg⟩ := DataW.trod_struct Tryd.underlying73 hf
    match xs, hlen with
    | [y0, y1], _ =>
      obtain ⟨z0, e0, _, k0⟩ := DataW.trod_int Tryd.underlying3 (show DataW.trod enc Tryd.prog W base spare held _ 3 [c0] = some y0 from hg 0 _ rfl)
      obtain ⟨A1, l1, q1, e1, h1, n1, w1⟩ := nodes_field (show DataW.trod enc Tryd.prog W base spare held _ 29 [c1] = some y1 from hg 1 _ rfl)
      have b1 := bulk_part hx (y := y1) (by simp)
      simp at e0
      subst e0 e1
      exact ⟨⟨z0, A1, q1, l1⟩, rfl, h1, ⟨wf64 k0, Nat.le_trans n1 b1, w1⟩⟩
set_option maxRecDepth 100000 in
theorem srcs_field {W : World} {v : Value} {x : DataW H × List MemPlace} {base fuel : Nat} {spare : Nat → Bool} {held : Bool} (hf : DataW.trod enc Tryd.prog W base spare held fuel 37 [v] = some x) :
    ∃ (A : Option Addr) (us : List SrcM) (cap : Nat), v = .slice A us.length cap ∧ SrcsAt W W.heap.size A us ∧ us.length ≤ Rows.uptoBulk x.1 ∧ ∀ s ∈ us, SrcWf (Rows.uptoBulk x.1) s := by
  obtain ⟨A, n, cap, rfl, h1, h2, h3, h4⟩ := recs_bulk (C := 2) Tryd.underlying37 (by kernel_rfl) (by decide) hf
  have hbn := bulk_field Tryd.underlying37 hf
  obtain ⟨us, hl, hR⟩ := list_of (fun i u => (∃ b o, A = some ⟨b, o, none⟩ ∧ b < W.heap.size ∧ ∀ (j : Nat) (v : Value), (srcCs u)[j]? = some v → W.cell? ⟨b, o + i * 2 + j, none⟩ = some v) ∧ SrcWf (Rows.uptoBulk x.1) u ∧ IntsAt W W.heap.size u.nA u.nodes) n (fun i hi => by
    obtain ⟨b, o, cs, e, hb, hcl, hc, y, m, ht, hby⟩ := h4 i hi
    obtain ⟨s, es, hs, hw⟩ := src_open hcl ht
    exact ⟨s, ⟨b, o, e, hb, by rw [es]; exact hc⟩, hw.mono hby, hs⟩)
  refine ⟨A, us, cap, by rw [hl], ⟨recsAt_of srcCs_len (by decide) (fun i a ha => (hR i a ha).1), fun q hq => ?_⟩, by omega, fun q hq => ?_⟩
  · obtain ⟨i, hi⟩ := List.getElem?_of_mem hq
    exact (hR i q hi).2.2
  · obtain ⟨i, hi⟩ := List.getElem?_of_mem hq
    exact (hR i q hi).2.1
set_option maxRecDepth 100000 in
set_option maxHeartbeats 1000000 in
theorem act_open {W : World} {cs : List Value} {x : DataW H × List MemPlace} {base fuel : Nat} {spare : Nat → Bool} {held : Bool} (hl : cs.length = 8) (hf : DataW.trod enc Tryd.prog W base spare held fuel 39 cs = some x) : ∃ a : ActM, actCs a = cs ∧ ActAt W W.heap.size a ∧ ActWf (Rows.uptoBulk x.1) a := by
  match cs, hl with
  | [c0, c1, c2, c3, c4, c5, c6, c7], _ =>
    obtain ⟨xs, n, _, hx, _, hlen, hg⟩ := DataW.trod_struct Tryd.underlying39 hf
    match xs, hlen with
    | [y0, y1, y2, y3, y4, y5, y6, y7], _ =>
      obtain ⟨z0, e0, _, k0⟩ := DataW.trod_int Tryd.underlying3 (show DataW.trod enc Tryd.prog W base spare held _ 3 [c0] = some y0 from hg 0 _ rfl)
      obtain ⟨z1, e1, _, k1⟩ := DataW.trod_int Tryd.underlying3 (show DataW.trod enc Tryd.prog W base spare held _ 3 [c1] = some y1 from hg 1 _ rfl)
      obtain ⟨z2, e2, _, k2⟩ := DataW.trod_int Tryd.underlying2 (show DataW.trod enc Tryd.prog W base spare held _ 2 [c2] = some y2 from hg 2 _ rfl)
      obtain ⟨z3, e3, _, k3⟩ := DataW.trod_int Tryd.underlying2 (show DataW.trod enc Tryd.prog W base spare held _ 2 [c3] = some y3 from hg 3 _ rfl)
      obtain ⟨z4, e4, _, k4⟩ := DataW.trod_int Tryd.underlying2 (show DataW.trod enc Tryd.prog W base spare held _ 2 [c4] = some y4 from hg 4 _ rfl)
      obtain ⟨z5, e5, _, k5⟩ := DataW.trod_int Tryd.underlying3 (show DataW.trod enc Tryd.prog W base spare held _ 3 [c5] = some y5 from hg 5 _ rfl)
      obtain ⟨A6, l6, q6, e6, h6, n6, w6⟩ := srcs_field (show DataW.trod enc Tryd.prog W base spare held _ 37 [c6] = some y6 from hg 6 _ rfl)
      obtain ⟨A7, l7, q7, e7, h7, n7, w7⟩ := nodes_field (show DataW.trod enc Tryd.prog W base spare held _ 29 [c7] = some y7 from hg 7 _ rfl)
      simp at e0 e1 e2 e3 e4 e5
      subst e0 e1 e2 e3 e4 e5 e6 e7
      have b6 := bulk_part hx (y := y6) (by simp)
      have b7 := bulk_part hx (y := y7) (by simp)
      exact ⟨⟨z0, z1, z2, z3, z4, z5, A6, q6, l6, A7, q7, l7⟩, rfl, ⟨h6, h7⟩, ⟨wf64 k0, wf64 k1, wf64 k2, wf64 k3, wf64 k4, wf64 k5, Nat.le_trans n6 b6, fun s hs => (w6 s hs).mono b6, Nat.le_trans n7 b7, w7⟩⟩
set_option maxRecDepth 100000 in
set_option maxHeartbeats 2000000 in
theorem ev_open {W : World} {cs : List Value} {x : DataW H × List MemPlace} {base fuel : Nat} {spare : Nat → Bool} {held : Bool} (hl : cs.length = 28) (hf : DataW.trod enc Tryd.prog W base spare held fuel 41 cs = some x) : ∃ e : EvM, evCs e = cs ∧ EvAt W W.heap.size e ∧ EvWf (Rows.uptoBulk x.1) e := by
  match cs, hl with
  | [c0, c1, c2, c3, c4, c5, c6, c7, c8, c9, c10, c11, c12, c13, c14, c15, c16, c17, c18, c19, c20, c21, c22, c23, c24, c25, c26, c27], _ =>
    obtain ⟨xs, n, _, hx, _, hlen, hg⟩ := DataW.trod_struct Tryd.underlying41 hf
    match xs, hlen with
    | [y0, y1, y2, y3, y4, y5, y6, y7, y8, y9, y10], _ =>
      obtain ⟨z0, e0, _, k0⟩ := DataW.trod_int Tryd.underlying3 (show DataW.trod enc Tryd.prog W base spare held _ 3 [c0] = some y0 from hg 0 _ rfl)
      obtain ⟨z1, e1, _, k1⟩ := DataW.trod_int Tryd.underlying2 (show DataW.trod enc Tryd.prog W base spare held _ 2 [c1] = some y1 from hg 1 _ rfl)
      obtain ⟨z2, e2, _, k2⟩ := DataW.trod_int Tryd.underlying3 (show DataW.trod enc Tryd.prog W base spare held _ 3 [c2] = some y2 from hg 2 _ rfl)
      obtain ⟨z3, e3, _, k3⟩ := DataW.trod_int Tryd.underlying2 (show DataW.trod enc Tryd.prog W base spare held _ 2 [c3] = some y3 from hg 3 _ rfl)
      obtain ⟨z4, e4, _, k4⟩ := DataW.trod_int Tryd.underlying2 (show DataW.trod enc Tryd.prog W base spare held _ 2 [c4] = some y4 from hg 4 _ rfl)
      obtain ⟨z5, e5, _, k5⟩ := DataW.trod_int Tryd.underlying2 (show DataW.trod enc Tryd.prog W base spare held _ 2 [c5] = some y5 from hg 5 _ rfl)
      obtain ⟨xsE, nE, _, hxE, _, hlE, hgE⟩ := DataW.trod_struct Tryd.underlying32 (show DataW.trod enc Tryd.prog W base spare held _ 32 [c6, c7, c8] = some y6 from hg 6 _ rfl)
      match xsE, hlE with
      | [E0, E1, E2], _ =>
      obtain ⟨z6, e6, _, k6⟩ := DataW.trod_int Tryd.underlying2 (show DataW.trod enc Tryd.prog W base spare held _ 2 [c6] = some E0 from hgE 0 _ rfl)
      obtain ⟨z7, e7, _, k7⟩ := DataW.trod_int Tryd.underlying3 (show DataW.trod enc Tryd.prog W base spare held _ 3 [c7] = some E1 from hgE 1 _ rfl)
      obtain ⟨A8, l8, q8, e8, h8, n8⟩ := bytes_field (show DataW.trod enc Tryd.prog W base spare held _ 30 [c8] = some E2 from hgE 2 _ rfl)
      obtain ⟨xsO, nO, _, _, _, hlO, hgO⟩ := DataW.trod_struct Tryd.underlying34 (show DataW.trod enc Tryd.prog W base spare held _ 34 [c9, c10, c11, c12, c13] = some y7 from hg 7 _ rfl)
      match xsO, hlO with
      | [O0, O1, O2, O3, O4], _ =>
      obtain ⟨z9, e9, _, k9⟩ := DataW.trod_int Tryd.underlying3 (show DataW.trod enc Tryd.prog W base spare held _ 3 [c9] = some O0 from hgO 0 _ rfl)
      obtain ⟨z10, e10, _, k10⟩ := DataW.trod_int Tryd.underlying2 (show DataW.trod enc Tryd.prog W base spare held _ 2 [c10] = some O1 from hgO 1 _ rfl)
      obtain ⟨z11, e11, _, k11⟩ := DataW.trod_int Tryd.underlying3 (show DataW.trod enc Tryd.prog W base spare held _ 3 [c11] = some O2 from hgO 2 _ rfl)
      obtain ⟨z12, e12, _, k12⟩ := DataW.trod_int Tryd.underlying2 (show DataW.trod enc Tryd.prog W base spare held _ 2 [c12] = some O3 from hgO 3 _ rfl)
      obtain ⟨z13, e13, _, k13⟩ := DataW.trod_int Tryd.underlying3 (show DataW.trod enc Tryd.prog W base spare held _ 3 [c13] = some O4 from hgO 4 _ rfl)
      obtain ⟨xsS, nS, _, _, _, hlS, hgS⟩ := DataW.trod_struct Tryd.underlying36 (show DataW.trod enc Tryd.prog W base spare held _ 36 [c14, c15, c16, c17, c18] = some y8 from hg 8 _ rfl)
      match xsS, hlS with
      | [S0, S1, S2, S3, S4], _ =>
      obtain ⟨z14, e14, _, k14⟩ := DataW.trod_int Tryd.underlying3 (show DataW.trod enc Tryd.prog W base spare held _ 3 [c14] = some S0 from hgS 0 _ rfl)
      obtain ⟨z15, e15, _, k15⟩ := DataW.trod_int Tryd.underlying2 (show DataW.trod enc Tryd.prog W base spare held _ 2 [c15] = some S1 from hgS 1 _ rfl)
      obtain ⟨z16, e16, _, k16⟩ := DataW.trod_int Tryd.underlying3 (show DataW.trod enc Tryd.prog W base spare held _ 3 [c16] = some S2 from hgS 2 _ rfl)
      obtain ⟨z17, e17, _, k17⟩ := DataW.trod_int Tryd.underlying3 (show DataW.trod enc Tryd.prog W base spare held _ 3 [c17] = some S3 from hgS 3 _ rfl)
      obtain ⟨z18, e18, _, k18⟩ := DataW.trod_int Tryd.underlying2 (show DataW.trod enc Tryd.prog W base spare held _ 2 [c18] = some S4 from hgS 4 _ rfl)
      obtain ⟨a, ea, ha, wa⟩ := act_open rfl (show DataW.trod enc Tryd.prog W base spare held _ 39 [c19, c20, c21, c22, c23, c24, c25, c26] = some y9 from hg 9 _ rfl)
      obtain ⟨A27, l27, q27, e27, h27, n27⟩ := bytes_field (show DataW.trod enc Tryd.prog W base spare held _ 30 [c27] = some y10 from hg 10 _ rfl)
      simp at e0 e1 e2 e3 e4 e5 e6 e7 e9 e10 e11 e12 e13 e14 e15 e16 e17 e18
      subst e0 e1 e2 e3 e4 e5 e6 e7 e8 e9 e10 e11 e12 e13 e14 e15 e16 e17 e18 e27
      have b6 := bulk_part hx (y := y6) (by simp)
      have b8 := Nat.le_trans (bulk_part hxE (y := E2) (by simp)) b6
      have b9 := bulk_part hx (y := y9) (by simp)
      have b27 := bulk_part hx (y := y10) (by simp)
      refine ⟨⟨z0, z1, z2, z3, z4, z5, z6, z7, A8, q8, l8, ⟨z9, z10, z11, z12, z13⟩, ⟨z14, z15, z16, z17, z18⟩, a, A27, q27, l27⟩, ?_, ⟨h8, ha, h27⟩, ⟨wf64 k0, wf64 k1, wf64 k2, wf64 k3, wf64 k4, wf64 k5, wf64 k6, wf64 k7, Nat.le_trans n8 b8, ⟨wf64 k9, wf64 k10, wf64 k11, wf64 k12, wf64 k13⟩, ⟨wf64 k14, wf64 k15, wf64 k16, wf64 k17, wf64 k18⟩, wa.mono b9, Nat.le_trans n27 b27⟩⟩
      unfold actCs at ea
      injection ea with a0 ea
      injection ea with a1 ea
      injection ea with a2 ea
      injection ea with a3 ea
      injection ea with a4 ea
      injection ea with a5 ea
      injection ea with a6 ea
      injection ea with a7 ea
      subst a0 a1 a2 a3 a4 a5 a6 a7
      rfl
set_option maxRecDepth 100000 in
theorem open_act {W : World} {r : _} {b0 : Nat} {v : Value} {d : DataW H} {p : List MemPlace} {base : Nat} {spare : Nat → Bool} {held : Bool}
    (hv : Value.okWide Tryd.prog W r b0 39 v) (h : DataW.Trod enc Tryd.prog W base spare held 39 v d p) : ∃ a : ActM, v = actV a ∧ ActAt W W.heap.size a ∧ ActWf (Rows.uptoBulk d) a := by
  obtain ⟨cs, rfl, hsz⟩ := okWide_struct Tryd.underlying39 hv
  have hC : Tryd.prog.cellsOf 39 = 8 := by kernel_rfl
  obtain ⟨fuel, hf⟩ := h
  obtain ⟨a, e, h1, h2⟩ := act_open (cs := cs.toList) (by rw [Array.length_toList, hsz, hC]) (by simpa [Value.cells] using hf)
  refine ⟨a, ?_, h1, h2⟩
  have e2 : cs = (actCs a).toArray := by rw [e]
  rw [e2]
  rfl
set_option maxRecDepth 100000 in
theorem open_ev {W : World} {r : _} {b0 : Nat} {v : Value} {d : DataW H} {p : List MemPlace} {base : Nat} {spare : Nat → Bool} {held : Bool}
    (hv : Value.okWide Tryd.prog W r b0 41 v) (h : DataW.Trod enc Tryd.prog W base spare held 41 v d p) : ∃ a : EvM, v = evV a ∧ EvAt W W.heap.size a ∧ EvWf (Rows.uptoBulk d) a := by
  obtain ⟨cs, rfl, hsz⟩ := okWide_struct Tryd.underlying41 hv
  have hC : Tryd.prog.cellsOf 41 = 28 := by kernel_rfl
  obtain ⟨fuel, hf⟩ := h
  obtain ⟨a, e, h1, h2⟩ := ev_open (cs := cs.toList) (by rw [Array.length_toList, hsz, hC]) (by simpa [Value.cells] using hf)
  refine ⟨a, ?_, h1, h2⟩
  have e2 : cs = (evCs a).toArray := by rw [e]
  rw [e2]
  rfl
end
end Go.Proofs.YtakdkiggaalimaaDoor
