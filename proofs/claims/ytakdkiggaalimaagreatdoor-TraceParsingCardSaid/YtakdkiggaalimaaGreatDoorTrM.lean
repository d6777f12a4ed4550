/-
  Actions and events as they lie in memory; what the texts of a trace say of a world.
-/
import Derived.Test.YtakdkiggaalimaaGreatDoorTrBd
import Derived.Test.YtakdkiggaalimaaGreatDoorRecs
import Derived.Test.YtakdkiggaalimaaGreatDoorTb
namespace Go.Proofs.YtakdkiggaalimaaGreatDoor
open Go.RowKit Go.Maps

def intV (v : Int) : Value := .int .i64 v
structure SrcM where
  kind : Int
  nA : Option Addr
  nc : Nat
  nodes : List Int
structure ActM where
  kind : Int
  who : Int
  n : Int
  call : Int
  other : Int
  node : Int
  sA : Option Addr
  sc : Nat
  srcs : List SrcM
  gA : Option Addr
  gc : Nat
  groups : List Int
structure EvM where
  kind : Int
  tick : Int
  who : Int
  call : Int
  epoch : Int
  n : Int
  eterm : Int
  ekind : Int
  eA : Option Addr
  ec : Nat
  ebody : List UInt8
  ord : OrdC
  sta : StaC
  act : ActM
  bA : Option Addr
  bc : Nat
  bytes : List UInt8
def SrcM.con (s : SrcM) : SrcC := ⟨s.kind, s.nodes⟩
def ActM.con (a : ActM) : ActC := ⟨a.kind, a.who, a.n, a.call, a.other, a.node, a.srcs.map SrcM.con, a.groups⟩
def EvM.con (e : EvM) : EvC := ⟨e.kind, e.tick, e.who, e.call, e.epoch, e.n, e.eterm, e.ekind, e.ebody, e.ord, e.sta, e.act.con, e.bytes⟩
def srcCs (s : SrcM) : List Value := [.int .i64 s.kind, .slice s.nA s.nodes.length s.nc]
def ActM.sV (a : ActM) : Value := .slice a.sA a.srcs.length a.sc
def ActM.gV (a : ActM) : Value := .slice a.gA a.groups.length a.gc
def actCs (a : ActM) : List Value := [.int .i64 a.kind, .int .i64 a.who, .int .i64 a.n, .int .i64 a.call, .int .i64 a.other, .int .i64 a.node, .slice a.sA a.srcs.length a.sc, .slice a.gA a.groups.length a.gc]
def actV (a : ActM) : Value := .agg #[.int .i64 a.kind, .int .i64 a.who, .int .i64 a.n, .int .i64 a.call, .int .i64 a.other, .int .i64 a.node, .slice a.sA a.srcs.length a.sc, .slice a.gA a.groups.length a.gc]
def ordV (o : OrdC) : Value := .agg #[.int .i64 o.unit, .int .i64 o.epoch, .int .i64 o.kind, .int .i64 o.incident, .int .i64 o.node]
def staV (o : StaC) : Value := .agg #[.int .i64 o.unit, .int .i64 o.seq, .int .i64 o.state, .int .i64 o.node, .int .i64 o.epoch]
def evV (e : EvM) : Value := .agg #[.int .i64 e.kind, .int .i64 e.tick, .int .i64 e.who, .int .i64 e.call, .int .i64 e.epoch, .int .i64 e.n, .int .i64 e.eterm, .int .i64 e.ekind, .slice e.eA e.ebody.length e.ec,
  .int .i64 e.ord.unit, .int .i64 e.ord.epoch, .int .i64 e.ord.kind, .int .i64 e.ord.incident, .int .i64 e.ord.node,
  .int .i64 e.sta.unit, .int .i64 e.sta.seq, .int .i64 e.sta.state, .int .i64 e.sta.node, .int .i64 e.sta.epoch,
  .int .i64 e.act.kind, .int .i64 e.act.who, .int .i64 e.act.n, .int .i64 e.act.call, .int .i64 e.act.other, .int .i64 e.act.node, .slice e.act.sA e.act.srcs.length e.act.sc, .slice e.act.gA e.act.groups.length e.act.gc,
  .slice e.bA e.bytes.length e.bc]
def evCs (e : EvM) : List Value := [.int .i64 e.kind, .int .i64 e.tick, .int .i64 e.who, .int .i64 e.call, .int .i64 e.epoch, .int .i64 e.n, .int .i64 e.eterm, .int .i64 e.ekind, .slice e.eA e.ebody.length e.ec,
  .int .i64 e.ord.unit, .int .i64 e.ord.epoch, .int .i64 e.ord.kind, .int .i64 e.ord.incident, .int .i64 e.ord.node,
  .int .i64 e.sta.unit, .int .i64 e.sta.seq, .int .i64 e.sta.state, .int .i64 e.sta.node, .int .i64 e.sta.epoch,
  .int .i64 e.act.kind, .int .i64 e.act.who, .int .i64 e.act.n, .int .i64 e.act.call, .int .i64 e.act.other, .int .i64 e.act.node, .slice e.act.sA e.act.srcs.length e.act.sc, .slice e.act.gA e.act.groups.length e.act.gc,
  .slice e.bA e.bytes.length e.bc]
theorem srcCs_len (s : SrcM) : (srcCs s).length = 2 := rfl
theorem actCs_len (s : ActM) : (actCs s).length = 8 := rfl
theorem evCs_len (s : EvM) : (evCs s).length = 28 := rfl
/-- a slice of numbers, of bytes. -/
def IntsAt (w : World) (B : Nat) (A : Option Addr) (l : List Int) : Prop := Sl w B A (l.map (Value.int .i64))
def BytesAt (w : World) (B : Nat) (A : Option Addr) (l : List UInt8) : Prop := Sl w B A (Lib.byteCells l)
structure SrcsAt (w : World) (B : Nat) (A : Option Addr) (l : List SrcM) : Prop where
  row : RecsAt srcCs w B A l
  nodes : ∀ s ∈ l, IntsAt w B s.nA s.nodes
structure ActAt (w : World) (B : Nat) (a : ActM) : Prop where
  srcs : SrcsAt w B a.sA a.srcs
  groups : IntsAt w B a.gA a.groups
structure EvAt (w : World) (B : Nat) (e : EvM) : Prop where
  body : BytesAt w B e.eA e.ebody
  act : ActAt w B e.act
  bytes : BytesAt w B e.bA e.bytes
section
variable {w w' : World} {B B' : Nat}
theorem SrcsAt.below {A : Option Addr} {l : List SrcM} (h : SrcsAt w B A l) (hb : Below B w w') : SrcsAt w' B A l := ⟨RecsAt.below h.row hb, fun s hs => Sl.below (h.nodes s hs) hb⟩
theorem SrcsAt.more {A : Option Addr} {l : List SrcM} (h : SrcsAt w B A l) (hB : B ≤ B') : SrcsAt w B' A l := ⟨RecsAt.more h.row hB, fun s hs => Sl.more (h.nodes s hs) hB⟩
theorem SrcsAt.empty {A : Option Addr} : SrcsAt w B A [] := ⟨RecsAt.empty, fun s hs => by cases hs⟩
theorem ActAt.below {a : ActM} (h : ActAt w B a) (hb : Below B w w') : ActAt w' B a := ⟨h.srcs.below hb, Sl.below h.groups hb⟩
theorem ActAt.more {a : ActM} (h : ActAt w B a) (hB : B ≤ B') : ActAt w B' a := ⟨h.srcs.more hB, Sl.more h.groups hB⟩
theorem EvAt.below {e : EvM} (h : EvAt w B e) (hb : Below B w w') : EvAt w' B e := ⟨Sl.below h.body hb, h.act.below hb, Sl.below h.bytes hb⟩
theorem EvAt.more {e : EvM} (h : EvAt w B e) (hB : B ≤ B') : EvAt w B' e := ⟨Sl.more h.body hB, h.act.more hB, Sl.more h.bytes hB⟩
/-- what a later world, in which nothing below w's size has changed, holds. -/
theorem ActAt.next {a : ActM} (h : ActAt w w.heap.size a) (hb : Below w.heap.size w w') : ActAt w' w'.heap.size a := (h.below hb).more hb.size
theorem EvAt.next {e : EvM} (h : EvAt w w.heap.size e) (hb : Below w.heap.size w w') : EvAt w' w'.heap.size e := (h.below hb).more hb.size
end
/-- a row of numbers of its own block. -/
def FieldsAt (X : World) (A : Option Addr) (fs : List Nat) : Prop := fs = [] ∨ ∃ b, A = some ⟨b, 0, none⟩ ∧ X.heap[b]? = some (.cells (fs.map (fun (f : Nat) => Value.int .i64 f)).toArray 3 (0, 0))
theorem fields_heap {X Y : World} {A : Option Addr} {fs : List Nat} (h : FieldsAt X A fs) (hk : ∀ (b : Nat) (cs : Array Value) (fr : Nat × Nat), X.heap[b]? = some (Obj.cells cs 3 fr) → Y.heap[b]? = X.heap[b]?) : FieldsAt Y A fs := by
  rcases h with h | ⟨b, e, hb⟩
  · exact .inl h
  · exact .inr ⟨b, e, (hk b _ _ hb).trans hb⟩
theorem FieldsAt.next {X Y : World} {A : Option Addr} {fs : List Nat} (h : FieldsAt X A fs) (hb : Below X.heap.size X Y) : FieldsAt Y A fs := fields_heap h fun b _ _ q => hb.block b (Array.getElem?_eq_some_iff.1 q).1
theorem FieldsAt.keep {X Y : World} {A : Option Addr} {fs : List Nat} {B : Nat} (h : FieldsAt X A fs) (hk : KeepB B X Y) (hB : ∃ (cs : Array Value) (T : TypeId) (fr : Nat × Nat), X.heap[B]? = some (Obj.cells cs T fr) ∧ T ≠ 3) : FieldsAt Y A fs := fields_heap h fun b cs fr q => by
  refine hk b cs _ fr q (fun e => ?_) (by decide)
  obtain ⟨cs', T, fr', q2, hne⟩ := hB
  rw [e, q2] at q
  injection q with q
  injection q with _ q _
  exact hne q
theorem FieldsAt.at {X : World} {A : Option Addr} {fs : List Nat} (h : FieldsAt X A fs) {k f : Nat} (hk : fs[k]? = some f) : ∃ b, A = some ⟨b, 0, none⟩ ∧ b < X.heap.size ∧ X.cell? ⟨b, k, none⟩ = some (.int .i64 f) := by
  rcases h with h | ⟨b, e, hb⟩
  · rw [h] at hk
    simp at hk
  · refine ⟨b, e, (Array.getElem?_eq_some_iff.1 hb).1, ?_⟩
    rw [Lib.cell_of_heap hb]
    simp [hk]
/-- what actionFields and eventFields return. -/
def RetFs (name : Wd) (fs : List Nat) (w : World) (e : Ending) (w' : World) : Prop :=
  ∃ A, e = .returned (.tuple #[.string (bs name), .slice A fs.length fs.length]) ∧ FieldsAt w' A fs ∧ (w' = w ∨ w' = w.alloc (.cells (fs.map (fun (f : Nat) => Value.int .i64 f)).toArray 3))
theorem RetFs.zero (name : Wd) (w : World) : RetFs name [] w (.returned (.tuple #[.string (bs name), .slice none 0 0])) w := ⟨_, rfl, .inl rfl, .inl rfl⟩
theorem RetFs.lit (name : Wd) (fs : List Nat) (w : World) {v : Value} {cs : Array Value} (hv : v = .tuple #[.string (bs name), .slice (some ⟨w.heap.size, 0, none⟩) fs.length fs.length]) (hc : cs = (fs.map (fun (f : Nat) => Value.int .i64 f)).toArray) : RetFs name fs w (.returned v) (w.alloc (.cells cs 3)) := by
  subst hv hc
  refine ⟨_, rfl, .inr ⟨w.heap.size, rfl, ?_⟩, .inr rfl⟩
  exact new_obj _ _
end Go.Proofs.YtakdkiggaalimaaGreatDoor
