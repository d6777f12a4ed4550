/-
  What trace.Parse makes of a text, in plain Lean: the good lines ahead, and whether that was all; there is one answer at most. And strings.Cut at a line's end.
  trace.Parse (printed by gentrps.py).
  samaritanref51.Split (printed by gentrsl.py).
  append of a whole slice of structs of some size (lines of XPqApp). Plain.
  samaritanref51: Same (printed by gentrjn.py).
  samaritanlaw51.wakes: the examples of the document.
  samaritanlaw51.TraceParsing: the walk (printed by gentrls.py).
-/
import Derived.Test.YtakdkiggaalimaaGreatDoorTrFs
import Derived.Test.YtakdkiggaalimaaGreatDoorTrSp
import Derived.Test.YtakdkiggaalimaaGreatDoorTrYh
import Derived.Great.BuildSlice
import Derived.OwnWalk
import Derived.Test.YtakdkiggaalimaaGreatDoorTrYf
import Derived.OrdersHeld
import Derived.Deep.RegionHeld3
import Derived.Deep.MidRow
import Derived.Test.YtakdkiggaalimaaGreatDoorTrFm
namespace Go.Proofs.YtakdkiggaalimaaGreatDoor
section
open Go.RowKit Go.Maps

theorem cutC_hit {c : UInt8} {p : List UInt8} (h : c ∉ p) (r : List UInt8) : Lib.cut (p ++ c :: r) [c] = (p, r, true) := by
  have e : Lib.index (p ++ c :: r) [c] = p.length := index_at (c := c) (t := []) (r := r) h
  unfold Lib.cut
  rw [e, if_pos (by omega)]
  simp
theorem cutC_miss {c : UInt8} {s : List UInt8} (h : c ∉ s) : Lib.cut s [c] = (s, [], false) := by
  unfold Lib.cut
  rw [index_miss h, if_neg (by omega)]
theorem cutNl_hit (x y : Wd) (hx : (10 : UInt8) ∉ x) (hs : (x ++ 10 :: y).length ≤ 1000000000) (w : World) (hr : Ready w) :
    Calls Tryz.prog 51 #[.string (bs (x ++ 10 :: y)), .string ⟨#[10]⟩] w fun e w' => e = .returned (.tuple #[.string (bs x), .string (bs y), .bool true]) ∧ ∃ n, w' = w.drewN n := by
  obtain ⟨m, hm⟩ := hr.most
  have h1 := Tryz.strings_Cut (bs (x ++ 10 :: y)) ⟨#[10]⟩ m w (by rw [bs_size]; omega) hm
  have hc2 : Lib.cut (bs (x ++ 10 :: y)).data.toList (⟨#[10]⟩ : ByteArray).data.toList = (x, y, true) := by
    rw [bs_data]
    exact cutC_hit hx y
  rw [hc2] at h1
  exact h1
theorem cutNl_miss (s : Wd) (h : (10 : UInt8) ∉ s) (hs : s.length ≤ 1000000000) (w : World) (hr : Ready w) :
    Calls Tryz.prog 51 #[.string (bs s), .string ⟨#[10]⟩] w fun e w' => e = .returned (.tuple #[.string (bs s), .string (bs []), .bool false]) ∧ ∃ n, w' = w.drewN n := by
  obtain ⟨m, hm⟩ := hr.most
  have h1 := Tryz.strings_Cut (bs s) ⟨#[10]⟩ m w (by rw [bs_size]; omega) hm
  have hc2 : Lib.cut (bs s).data.toList (⟨#[10]⟩ : ByteArray).data.toList = (s, [], false) := by
    rw [bs_data]
    exact cutC_miss h
  rw [hc2] at h1
  exact h1
/-- an event whose line can be read back. -/
def GoodE (b : EvC) : Prop := VEv b ∧ EvOk b ∧ (evT b).length ≤ 65536
/-- a text that does not begin with the line of an event. -/
def BadT (t : Wd) : Prop := t ≠ [] ∧ ((10 : UInt8) ∉ t ∨ ∃ u r, t = u ++ 10 :: r ∧ (10 : UInt8) ∉ u ∧ ∀ b, GoodE b → u ≠ evT b)
def ParT (s : Wd) (l : List EvC) (ok : Bool) : Prop := (∀ x ∈ l, GoodE x) ∧ ∃ t, s = joinE l ++ t ∧ if ok then t = [] else BadT t
theorem joinE_cons (x : EvC) (r : List EvC) : joinE (x :: r) = evT x ++ 10 :: joinE r := by simp [joinE]
theorem evT_no10 (e : EvC) : (10 : UInt8) ∉ evT e := lineW_no10 (evW_no10 e)
theorem nl_apart : ∀ {u v r r' : Wd}, (10 : UInt8) ∉ u → (10 : UInt8) ∉ v → u ++ 10 :: r = v ++ 10 :: r' → u = v ∧ r = r'
  | [], [], _, _, _, _, h => by
    injection h with _ h
    exact ⟨rfl, h⟩
  | [], y :: v, _, _, _, h2, h => by
    injection h with h1 _
    exact absurd (by rw [← h1]; simp) h2
  | x :: u, [], _, _, h1, _, h => by
    injection h with h2 _
    exact absurd (by rw [h2]; simp) h1
  | x :: u, y :: v, _, _, h1, h2, h => by
    injection h with h3 h4
    obtain ⟨e1, e2⟩ := nl_apart (fun q => h1 (by simp [q])) (fun q => h2 (by simp [q])) h4
    exact ⟨by rw [h3, e1], e2⟩
theorem bad_good {t : Wd} {x : EvC} {r : Wd} (hb : BadT t) (hx : GoodE x) : t ≠ evT x ++ 10 :: r := fun q => by
  rcases hb.2 with h | ⟨u, r', e, hu, hn⟩
  · rw [q] at h
    simp at h
  · rw [e] at q
    exact hn x hx (nl_apart hu (evT_no10 x) q).1
theorem parT_one : ∀ {l l' : List EvC} {s : Wd} {ok ok' : Bool}, ParT s l ok → ParT s l' ok' → l = l' ∧ ok = ok'
  | [], [], s, ok, ok', ⟨_, t, e1, h1⟩, ⟨_, t', e2, h2⟩ => by
    refine ⟨rfl, ?_⟩
    have e : t = t' := by
      rw [e1] at e2
      simpa using e2
    subst e
    cases ok <;> cases ok'
    · rfl
    · simp at h1 h2
      exact absurd h2 h1.1
    · simp at h1 h2
      exact absurd h1 h2.1
    · rfl
  | [], x :: l', s, ok, ok', ⟨_, t, e1, h1⟩, ⟨g2, t', e2, h2⟩ => by
    rw [e1, joinE_cons] at e2
    have e2 : t = evT x ++ 10 :: (joinE l' ++ t') := by simpa [joinE] using e2
    cases ok
    · simp at h1
      exact absurd e2 (bad_good h1 (g2 x (by simp)))
    · simp at h1
      rw [h1] at e2
      simp at e2
  | x :: l, [], s, ok, ok', ⟨g1, t, e1, h1⟩, ⟨_, t', e2, h2⟩ => by
    rw [e2, joinE_cons] at e1
    have e2 : t' = evT x ++ 10 :: (joinE l ++ t) := by simpa [joinE] using e1
    cases ok'
    · simp at h2
      exact absurd e2 (bad_good h2 (g1 x (by simp)))
    · simp at h2
      rw [h2] at e2
      simp at e2
  | x :: l, y :: l', s, ok, ok', ⟨g1, t, e1, h1⟩, ⟨g2, t', e2, h2⟩ => by
    have e3 := e2
    rw [e1, joinE_cons, joinE_cons] at e3
    simp only [List.append_assoc, List.cons_append] at e3
    obtain ⟨q1, q2⟩ := nl_apart (evT_no10 x) (evT_no10 y) e3
    have q3 := evT_inj (g1 x (by simp)).1 (g2 y (by simp)).1 q1
    obtain ⟨q4, q5⟩ := parT_one (s := joinE l ++ t) (l := l) (l' := l') (ok := ok) (ok' := ok') ⟨fun z hz => g1 z (by simp [hz]), t, rfl, h1⟩ ⟨fun z hz => g2 z (by simp [hz]), t', q2, h2⟩
    exact ⟨by rw [q3, q4], q5⟩
theorem parT_app {s t : Wd} {l m : List EvC} {ok : Bool} (h1 : ParT s l true) (h2 : ParT t m ok) : ParT (s ++ t) (l ++ m) ok := by
  obtain ⟨g1, x, e1, q1⟩ := h1
  obtain ⟨g2, y, e2, q2⟩ := h2
  have q1 : x = [] := by simpa using q1
  refine ⟨fun z hz => ?_, y, ?_, q2⟩
  · rcases List.mem_append.1 hz with h | h
    · exact g1 z h
    · exact g2 z h
  · rw [e1, e2, q1]
    simp [joinE]
theorem parT_join {l : List EvC} (h : ∀ x ∈ l, GoodE x) : ParT (joinE l) l true := ⟨h, [], by simp, by simp⟩
theorem joinE_count (l : List EvC) : l.length ≤ (joinE l).length := by
  induction l with
  | nil => simp
  | cons x r ih =>
    rw [joinE_cons, List.length_append, List.length_cons, List.length_cons]
    omega
end
section
open Go.RowKit Go.Maps

theorem ev_info : (Tryz.prog.info? 35).map (fun i => (i.zero, i.size, i.bytes)) = some (some (.agg #[.int .i64 0, .int .i64 0, .int .i64 0, .int .i64 0, .int .i64 0, .int .i64 0, .int .i64 0, .int .i64 0, .slice none 0 0, .int .i64 0, .int .i64 0, .int .i64 0, .int .i64 0, .int .i64 0, .int .i64 0, .int .i64 0, .int .i64 0, .int .i64 0, .int .i64 0, .int .i64 0, .int .i64 0, .int .i64 0, .int .i64 0, .int .i64 0, .int .i64 0, .slice none 0 0, .slice none 0 0, .slice none 0 0]), 28, 288) := by kernel_rfl
theorem below_drewN' {B : Nat} {w w' : World} (h : Below B w w') (n : Nat) : Below B w (w'.drewN n) := ⟨h.os, h.tape, h.output, h.size, h.block⟩
theorem bs_toL (t : Wd) : (bs t).toList = t := by
  rw [ByteArray.toList_eq]
  exact bs_data t
/-- append of one struct of some size. -/
theorem wpList_append_big {α : Type} {cs : α → List Value} {s : Nat} {P : Program} (w : World) {ops : Array Oper} {rest : List Oper} {o : Oper} {a : Act} {Q : Exit → Act → World → Prop} (hgd : o.guard = none) (sl x : Operand) (t : TypeId)
    (ho : o.op = .call { callee := .builtin .append, args := #[sl, x], argTypes := #[t, t] })
    (base : Nat) (e : TypeId) (ht : P.underlying t = some (.slice e)) {z0 : Value} {by0 : Nat} (hinfo : (P.info? e).map (fun i => (i.zero, i.size, i.bytes)) = some (some z0, s, by0)) (hz0 : z0.cells.size = s) (h0 : 0 < s) (hby : by0 ≤ 512)
    (hs : ∀ a, (cs a).length = s) (v : Value) (xs : List α) (w0 : World) (z : α) (hone : ∀ u ∈ cs z, u.oneCell' = true) (vs : Array Value) (hvs : vs = (cs z).toArray) (hw : w = w0.alloc (.cells vs e)) (hv : a.eval sl = v) (hown : OwnR cs s w0 base e v xs)
    (nb : Nat) (hx : a.eval x = .slice (some ⟨nb, 0, none⟩) 1 1) (hnb : nb = w0.heap.size) (hlen : xs.length + 1 ≤ 274877906944) (hbase : base ≤ w0.heap.size)
    (h : ∀ v' w', OwnR cs s w' base e v' (xs ++ [z]) → w0.grownBy w' v.ownBlock → wpList P ops Q rest (a.put o.dst v') w') :
    wpList P ops Q (o :: rest) a w := by
  obtain ⟨i0, hi, hz1, hz2, hz3⟩ := info_parts hinfo
  subst hw hvs hnb
  have hcell : ∀ j u, (cs z)[j]? = some u → (w0.alloc (.cells (cs z).toArray e)).cell? ((⟨w0.heap.size, 0, none⟩ : Addr).add j) = some u := by
    intro j u hj
    rw [add_none, Nat.zero_add, World.cell?_alloc_at (hn := rfl)]
    simpa using hj
  refine wpList_append_own _ hgd sl x t ho base e i0 z0 s by0 ht hi hz1 hz2 hz3 hz0 h0 v xs.length _ hv (World.ownsRow.alloc hown _) ⟨w0.heap.size, 0, none⟩ 1 1 (cs z) hx (by rw [hs, Nat.one_mul]) hcell
    hone (by unfold maxLen; omega) ?_ (by simp; omega) ?_
  · have := Nat.mul_le_mul hlen hby
    omega
  intro v' w' h1 h2 _
  refine h v' w' ?_ ?_
  · unfold OwnR
    rw [List.length_append, List.length_singleton, List.flatMap_append]
    simpa using h1
  · exact (World.grownBy_alloc w0 _ _).trans h2
/-- events of the call's own. -/
structure EvsO (Y : World) (base : Nat) (v : Value) (l : List EvM) : Prop where
  row : OwnR evCs 28 Y base 35 v l
  evs : ∀ e ∈ l, EvO Y base e
theorem EvsO.nil (Y : World) (base : Nat) : EvsO Y base (.slice none 0 0) [] := ⟨World.ownsRow_nil _ _ _ _, fun s hs => by cases hs⟩
theorem EvsO.next {Y Z : World} {base : Nat} {v : Value} {l : List EvM} (h : EvsO Y base v l) (hb : Below Y.heap.size Y Z) : EvsO Z base v l := ⟨own_next h.row hb, fun e he => (h.evs e he).next hb⟩
theorem EvsO.base {Y : World} {base base' : Nat} {v : Value} {l : List EvM} (h : EvsO Y base v l) (hb : base' ≤ base) : EvsO Y base' v l := ⟨own_base h.row hb, fun e he => (h.evs e he).base hb⟩
theorem EvsO.drewN {Y : World} {base : Nat} {v : Value} {l : List EvM} (h : EvsO Y base v l) (n : Nat) : EvsO (Y.drewN n) base v l := ⟨h.row, fun e he => ⟨⟨⟨(h.evs e he).act.srcs.row, (h.evs e he).act.srcs.nodes⟩, (h.evs e he).act.groups⟩, (h.evs e he).body, (h.evs e he).nob⟩⟩
theorem own_apart {Y Z : World} {base b2 : Nat} {e e2 : TypeId} {s s2 n n2 : Nat} {v v2 : Value} {xs ys : List Value} (h : Y.ownsRow base e s v n xs) (h2 : Y.ownsRow b2 e2 s2 v2 n2 ys) (hT : e ≠ e2) (hg : Y.grownBy Z v2.ownBlock) : Z.ownsRow base e s v n xs :=
  Only.row (Only.of_grown (S := fun b => v2.ownBlock = some b) hg (fun _ q => q)) h (fun _ hk q => rows_apart h h2 hT hk q)
theorem EvO.apart {Y Z : World} {base b2 : Nat} {x : EvM} (h : EvO Y base x) {s2 n2 : Nat} {v2 : Value} {ys : List Value} (h2 : Y.ownsRow b2 35 s2 v2 n2 ys) (hg : Y.grownBy Z v2.ownBlock) : EvO Z base x :=
  ⟨⟨⟨own_apart h.act.srcs.row h2 (by decide) hg, fun s hs => own_apart (h.act.srcs.nodes s hs) h2 (by decide) hg⟩, own_apart h.act.groups h2 (by decide) hg⟩, own_apart h.body h2 (by decide) hg, h.nob⟩
theorem EvsO.push {Y Z : World} {base : Nat} {v v' : Value} {l : List EvM} {x : EvM} (h : EvsO Y base v l) (h' : OwnR evCs 28 Z base 35 v' (l ++ [x])) (hg : Y.grownBy Z v.ownBlock) (hx : EvO Y base x) : EvsO Z base v' (l ++ [x]) := by
  refine ⟨h', fun t ht => ?_⟩
  rcases List.mem_append.1 ht with e | e
  · exact (h.evs t e).apart h.row hg
  · rw [List.mem_singleton.1 e]
    exact hx.apart h.row hg
theorem EvsO.sl {Y : World} {base : Nat} {v : Value} {l : List EvM} (h : EvsO Y base v l) : ∃ A c, v = .slice A l.length c ∧ EvsAt Y Y.heap.size A l := by
  obtain ⟨A, c, e, h1⟩ := OwnR.sl h.row
  exact ⟨A, c, e, h1, fun x hx => (h.evs x hx).at⟩
/-- what Parse returns. -/
def RetPs (s : Wd) (w : World) (e : Ending) (w' : World) : Prop :=
  ∃ (l : List EvM) (ok : Bool), ParT s (l.map EvM.con) ok ∧ (∀ x ∈ l, EvBd x) ∧ Below w.heap.size w w' ∧
    if ok then ∃ A c, e = .returned (.tuple #[.slice A l.length c, .int .i64 0, .int .i64 0]) ∧ EvsO w' w.heap.size (.slice A l.length c) l
    else e = .returned (.tuple #[.slice none 0 0, .int .i64 (l.length + 1), .int .i64 2])
def szV : Value → Nat
  | .string b => b.size
  | _ => 0
theorem szV_str (b : ByteArray) : szV (.string b) = b.size := rfl
theorem fill_ev (D : Array Value) (h : D.size = 28) (z : Value) : Instr.fill (fun i => some (i * 28, 28)) ((Array.range (1 * 28)).map (z.cells[· % z.cells.size]!)) [(0, .agg D)] = some D := by
  have h1 := Great.fill_whole (s := 28) (by decide) [.agg D] ((Array.range (1 * 28)).map (z.cells[· % z.cells.size]!)) (by intro v hv; rw [List.mem_singleton.1 hv]; exact h) (by simp)
  simpa [Value.cells] using h1
set_option maxRecDepth 100000 in
set_option maxHeartbeats 16000000 in
theorem parse_any (s : Wd) (hsl : s.length ≤ 1000000000) (w : World) (hr : Ready w) : Calls Tryz.prog 22 #[.string (bs s)] w (RetPs s w) := by
  have HR := Lib.hid hr
  have HSL := Lib.hid hsl
  clear hr hsl
  go_enter Tryz.func22, Tryz.ntmps22
  go_wp2_with fail
  go_loopw [0, 5, 6] (fun sv lv nv X => ∃ (l : List EvM) (t : Wd), sv = .string (bs t) ∧ nv = .int .i64 (l.length + 1) ∧ s = joinE (l.map EvM.con) ++ t ∧ (∀ x ∈ l, GoodE x.con ∧ EvBd x) ∧ EvsO X w.heap.size lv l ∧ Below w.heap.size w X) (fun sv _ _ _ => szV sv)
  case atStart => exact ⟨[], s, rfl, rfl, rfl, (fun x hx => by cases hx), EvsO.nil _ _, Below.refl _ _⟩
  case round =>
    obtain ⟨l, t, rfl, rfl, hs, hg, ho, hb⟩ := hrel
    have HI := Lib.hid (And.intro hs (And.intro hg (And.intro ho hb)))
    have hll : l.length ≤ 1000000000 := by
      have h1 := joinE_count (l.map EvM.con)
      have h2 := congrArg List.length hs
      rw [List.length_append] at h2
      rw [List.length_map] at h1
      have := HSL.out
      omega
    have htl : t.length ≤ 1000000000 := by
      have h2 := congrArg List.length hs
      rw [List.length_append] at h2
      have := HSL.out
      omega
    have HRI := Lib.hid (HR.out.kept hb HR.out.room)
    clear hs hg ho hb
    by_cases ht : t = []
    · have e0 : (bs t).toList.isEmpty = true := by rw [bs_toL, ht]; rfl
      have HT := Lib.hid ht
      clear ht
      obtain ⟨A, c, e5, hat⟩ := HI.out.2.2.1.sl
      subst e5
      clear hat
      go_wp2_with fail
      go_ret3
      exact ⟨l, true, ⟨fun x hx => by obtain ⟨y, hy, rfl⟩ := List.mem_map.1 hx; exact (HI.out.2.1 y hy).1, t, HI.out.1, HT.out⟩, fun x hx => (HI.out.2.1 x hx).2, HI.out.2.2.2, A, c, rfl, HI.out.2.2.1⟩
    have e0 : (bs t).toList.isEmpty = false := by
      rw [bs_toL]
      cases t with
      | nil => exact absurd rfl ht
      | cons _ _ => rfl
    have HT := Lib.hid ht
    clear ht
    by_cases hm : (10 : UInt8) ∈ t
    rotate_left
    · have HC := Lib.hid (cutNl_miss t hm htl wr HRI.out)
      have HM := Lib.hid hm
      clear hm
      go_wp2_with fail
      refine HC.out.mono ?_
      rintro e X1 ⟨rfl, n1, rfl⟩
      go_wp2_with fail
      go_ret3
      exact ⟨l, false, ⟨fun x hx => by obtain ⟨y, hy, rfl⟩ := List.mem_map.1 hx; exact (HI.out.2.1 y hy).1, t, HI.out.1, HT.out, .inl HM.out⟩, fun x hx => (HI.out.2.1 x hx).2, below_drewN' HI.out.2.2.2 _, rfl⟩
    obtain ⟨u, r, htt, hu⟩ := List.eq_append_cons_of_mem hm
    subst htt
    have hul : u.length ≤ 1000000000 ∧ r.length + 1 ≤ 1000000000 := by
      rw [List.length_append, List.length_cons] at htl
      omega
    have HC := Lib.hid (cutNl_hit u r hu htl wr HRI.out)
    have HU := Lib.hid hu
    obtain ⟨tb0, htb⟩ : ∃ tb0, tb0 = bs (u ++ 10 :: r) := ⟨_, rfl⟩
    have HTB := Lib.hid htb
    rw [← htb] at HC e0 ⊢
    clear hm hu htb htl
    go_wp2_with fail
    refine HC.out.mono ?_
    rintro e X1 ⟨rfl, n1, rfl⟩
    have HPE := Lib.hid (parseEv_any u (wr.drewN n1) (HRI.out.below (below_drewN' (Below.refl _ _) n1)))
    go_wp2_with fail
    refine HPE.out.mono ?_
    rintro e Y (⟨a, hok, hv, htx, hul2, he, hown, hbd, hb2⟩ | ⟨hno, he, hb2⟩)
    · obtain ⟨D, hD⟩ : ∃ D, D = (evCs a).toArray := ⟨_, rfl⟩
      have hva : evV a = .agg D := by rw [hD]; rfl
      rw [hva] at he
      subst he
      have hb3 : Below wr.heap.size wr Y := (below_drewN' (Below.refl _ _) n1).trans hb2
      have hszd : (Tryz.prog.info? 35).map (·.size) = some D.size := by rw [hD]; exact ev_size
      have honed : D.all (·.oneCell') = true := by rw [hD]; exact evCs_one a
      have hold : (#[.int .i64 0, .int .i64 0, .int .i64 0, .int .i64 0, .int .i64 0, .int .i64 0, .int .i64 0, .int .i64 0, .slice none 0 0, .int .i64 0, .int .i64 0, .int .i64 0, .int .i64 0, .int .i64 0, .int .i64 0, .int .i64 0, .int .i64 0, .int .i64 0, .int .i64 0, .int .i64 0, .int .i64 0, .int .i64 0, .int .i64 0, .int .i64 0, .int .i64 0, .slice none 0 0, .slice none 0 0, .slice none 0 0] : Array Value).size = D.size := by rw [hD]; rfl
      have hoy := new_obj Y (.cells #[.int .i64 0, .int .i64 0, .int .i64 0, .int .i64 0, .int .i64 0, .int .i64 0, .int .i64 0, .int .i64 0, .slice none 0 0, .int .i64 0, .int .i64 0, .int .i64 0, .int .i64 0, .int .i64 0, .int .i64 0, .int .i64 0, .int .i64 0, .int .i64 0, .int .i64 0, .int .i64 0, .int .i64 0, .int .i64 0, .int .i64 0, .int .i64 0, .int .i64 0, .slice none 0 0, .slice none 0 0, .slice none 0 0] 35)
      have hrow := setRow_heap _ _ _ D _ _ hoy
      have HWZ := Lib.hid (World.setRow_alloc_new Y #[.int .i64 0, .int .i64 0, .int .i64 0, .int .i64 0, .int .i64 0, .int .i64 0, .int .i64 0, .int .i64 0, .slice none 0 0, .int .i64 0, .int .i64 0, .int .i64 0, .int .i64 0, .int .i64 0, .int .i64 0, .int .i64 0, .int .i64 0, .int .i64 0, .int .i64 0, .int .i64 0, .int .i64 0, .int .i64 0, .int .i64 0, .int .i64 0, .int .i64 0, .slice none 0 0, .slice none 0 0, .slice none 0 0] D 35)
      have hfill : Instr.fill (fun i => some (i * 28, 28)) ((Array.range (1 * 28)).map ((Value.agg #[.int .i64 0, .int .i64 0, .int .i64 0, .int .i64 0, .int .i64 0, .int .i64 0, .int .i64 0, .int .i64 0, .slice none 0 0, .int .i64 0, .int .i64 0, .int .i64 0, .int .i64 0, .int .i64 0, .int .i64 0, .int .i64 0, .int .i64 0, .int .i64 0, .int .i64 0, .int .i64 0, .int .i64 0, .int .i64 0, .int .i64 0, .int .i64 0, .int .i64 0, .slice none 0 0, .slice none 0 0, .slice none 0 0]).cells[· % (Value.agg #[.int .i64 0, .int .i64 0, .int .i64 0, .int .i64 0, .int .i64 0, .int .i64 0, .int .i64 0, .int .i64 0, .slice none 0 0, .int .i64 0, .int .i64 0, .int .i64 0, .int .i64 0, .int .i64 0, .int .i64 0, .int .i64 0, .int .i64 0, .int .i64 0, .int .i64 0, .int .i64 0, .int .i64 0, .int .i64 0, .int .i64 0, .int .i64 0, .int .i64 0, .slice none 0 0, .slice none 0 0, .slice none 0 0]).cells.size]!)) [(0, .agg D)] = some D := fill_ev D (by rw [hD]; rfl) _
      obtain ⟨ie, hie, hiz, his, _⟩ := info_parts ev_info
      have HO6 : Hid (EvsO ((Y.alloc (.cells #[.int .i64 0, .int .i64 0, .int .i64 0, .int .i64 0, .int .i64 0, .int .i64 0, .int .i64 0, .int .i64 0, .slice none 0 0, .int .i64 0, .int .i64 0, .int .i64 0, .int .i64 0, .int .i64 0, .int .i64 0, .int .i64 0, .int .i64 0, .int .i64 0, .int .i64 0, .int .i64 0, .int .i64 0, .int .i64 0, .int .i64 0, .int .i64 0, .int .i64 0, .slice none 0 0, .slice none 0 0, .slice none 0 0] 35)).setRow Y.heap.size D) w.heap.size u5 l ∧ EvO ((Y.alloc (.cells #[.int .i64 0, .int .i64 0, .int .i64 0, .int .i64 0, .int .i64 0, .int .i64 0, .int .i64 0, .int .i64 0, .slice none 0 0, .int .i64 0, .int .i64 0, .int .i64 0, .int .i64 0, .int .i64 0, .int .i64 0, .int .i64 0, .int .i64 0, .int .i64 0, .int .i64 0, .int .i64 0, .int .i64 0, .int .i64 0, .int .i64 0, .int .i64 0, .int .i64 0, .slice none 0 0, .slice none 0 0, .slice none 0 0] 35)).setRow Y.heap.size D) w.heap.size a ∧ Below w.heap.size w ((Y.alloc (.cells #[.int .i64 0, .int .i64 0, .int .i64 0, .int .i64 0, .int .i64 0, .int .i64 0, .int .i64 0, .int .i64 0, .slice none 0 0, .int .i64 0, .int .i64 0, .int .i64 0, .int .i64 0, .int .i64 0, .int .i64 0, .int .i64 0, .int .i64 0, .int .i64 0, .int .i64 0, .int .i64 0, .int .i64 0, .int .i64 0, .int .i64 0, .int .i64 0, .int .i64 0, .slice none 0 0, .slice none 0 0, .slice none 0 0] 35)).setRow Y.heap.size D)) := Lib.hid (by
        rw [HWZ.out]
        have hb4 := below_new Y (.cells D 35)
        exact ⟨(HI.out.2.2.1.next hb3).next hb4, (hown.next hb4).base HI.out.2.2.2.size, (HI.out.2.2.2.trans (hb3.mono HI.out.2.2.2.size)).trans (hb4.mono (Nat.le_trans HI.out.2.2.2.size hb3.size))⟩)
      have HA := Lib.hid (And.intro hok (And.intro hv (And.intro htx (And.intro hul2 (And.intro hbd hD)))))
      clear hok hv htx hul2 hown hbd hb2 hb3 hva hD
      go_wp2_with (first | (refine wpList_store_row rfl 35 (.tmp 10) (.tmp 28) rfl Y.heap.size D rfl rfl 35 _ hoy hszd hold honed ?_) | (refine wpList_load_row_g (by rfl) 35 (.tmp 10) rfl Y.heap.size rfl 35 D (0, 0) _ hrow Tryz.underlying35 rfl hszd ?_) | (refine wpList_buildSlice rfl 44 35 1 #[(0, .tmp 34)] rfl D ie _ Tryz.underlying44 hie hiz (by rw [his]; decide) (by rw [his]; decide) (by rw [his, Array.toList_map]; exact hfill) ?_) | (at_builtin; refine wpList_append_big (cs := evCs) (s := 28) _ rfl _ _ 44 rfl w.heap.size 35 Tryz.underlying44 ev_info rfl (by decide) (by decide) evCs_len _ l ((Y.alloc (.cells #[.int .i64 0, .int .i64 0, .int .i64 0, .int .i64 0, .int .i64 0, .int .i64 0, .int .i64 0, .int .i64 0, .slice none 0 0, .int .i64 0, .int .i64 0, .int .i64 0, .int .i64 0, .int .i64 0, .int .i64 0, .int .i64 0, .int .i64 0, .int .i64 0, .int .i64 0, .int .i64 0, .int .i64 0, .int .i64 0, .int .i64 0, .int .i64 0, .int .i64 0, .slice none 0 0, .slice none 0 0, .slice none 0 0] 35)).setRow Y.heap.size D) a (by have := evCs_one a; simpa using this) D HA.out.2.2.2.2.2 rfl rfl HO6.out.1.row _ rfl rfl (by omega) HO6.out.2.2.size ?_; intro v5 w5 hown5 hg5))
      have H5 := Lib.hid (And.intro (HO6.out.1.push hown5 hg5 HO6.out.2.1) (HO6.out.2.2.grown hg5 HO6.out.2.2.size (fun j e => OwnR.ge_base HO6.out.1.row j e)))
      clear hown5 hg5
      go_wp2_with fail
      go_roundw
      case rel =>
        refine ⟨l ++ [a], r, rfl, ?_, ?_, fun x hx => ?_, H5.out.1, H5.out.2⟩
        · rw [List.length_append]
          go_num
        · rw [HI.out.1, HA.out.2.2.1]
          simp [joinE]
        · rcases List.mem_append.1 hx with q | q
          · exact HI.out.2.1 x q
          · rw [List.mem_singleton.1 q]
            exact ⟨⟨HA.out.2.1, HA.out.1, by rw [← HA.out.2.2.1]; exact HA.out.2.2.2.1⟩, HA.out.2.2.2.2.1⟩
      case measure =>
        rw [HTB.out]
        simp only [szV_str, bs_size, List.length_append, List.length_cons]
        omega
    · obtain ⟨D, hD⟩ : ∃ D, D = (evCs (EvM.zero 0 0)).toArray := ⟨_, rfl⟩
      have hva : evV (EvM.zero 0 0) = .agg D := by rw [hD]; rfl
      rw [hva] at he
      subst he
      have hb3 : Below wr.heap.size wr Y := (below_drewN' (Below.refl _ _) n1).trans hb2
      have hszd : (Tryz.prog.info? 35).map (·.size) = some D.size := by rw [hD]; exact ev_size
      have honed : D.all (·.oneCell') = true := by rw [hD]; exact evCs_one _
      have hold : (#[.int .i64 0, .int .i64 0, .int .i64 0, .int .i64 0, .int .i64 0, .int .i64 0, .int .i64 0, .int .i64 0, .slice none 0 0, .int .i64 0, .int .i64 0, .int .i64 0, .int .i64 0, .int .i64 0, .int .i64 0, .int .i64 0, .int .i64 0, .int .i64 0, .int .i64 0, .int .i64 0, .int .i64 0, .int .i64 0, .int .i64 0, .int .i64 0, .int .i64 0, .slice none 0 0, .slice none 0 0, .slice none 0 0] : Array Value).size = D.size := by rw [hD]; rfl
      have hoy := new_obj Y (.cells #[.int .i64 0, .int .i64 0, .int .i64 0, .int .i64 0, .int .i64 0, .int .i64 0, .int .i64 0, .int .i64 0, .slice none 0 0, .int .i64 0, .int .i64 0, .int .i64 0, .int .i64 0, .int .i64 0, .int .i64 0, .int .i64 0, .int .i64 0, .int .i64 0, .int .i64 0, .int .i64 0, .int .i64 0, .int .i64 0, .int .i64 0, .int .i64 0, .int .i64 0, .slice none 0 0, .slice none 0 0, .slice none 0 0] 35)
      have HWZ := Lib.hid (World.setRow_alloc_new Y #[.int .i64 0, .int .i64 0, .int .i64 0, .int .i64 0, .int .i64 0, .int .i64 0, .int .i64 0, .int .i64 0, .slice none 0 0, .int .i64 0, .int .i64 0, .int .i64 0, .int .i64 0, .int .i64 0, .int .i64 0, .int .i64 0, .int .i64 0, .int .i64 0, .int .i64 0, .int .i64 0, .int .i64 0, .int .i64 0, .int .i64 0, .int .i64 0, .int .i64 0, .slice none 0 0, .slice none 0 0, .slice none 0 0] D 35)
      have HF : Hid (RetPs s w (.returned (.tuple #[.slice none 0 0, .int .i64 (l.length + 1), .int .i64 2])) ((Y.alloc (.cells #[.int .i64 0, .int .i64 0, .int .i64 0, .int .i64 0, .int .i64 0, .int .i64 0, .int .i64 0, .int .i64 0, .slice none 0 0, .int .i64 0, .int .i64 0, .int .i64 0, .int .i64 0, .int .i64 0, .int .i64 0, .int .i64 0, .int .i64 0, .int .i64 0, .int .i64 0, .int .i64 0, .int .i64 0, .int .i64 0, .int .i64 0, .int .i64 0, .int .i64 0, .slice none 0 0, .slice none 0 0, .slice none 0 0] 35)).setRow Y.heap.size D)) := Lib.hid (by
        refine ⟨l, false, ⟨fun x hx => by obtain ⟨y, hy, rfl⟩ := List.mem_map.1 hx; exact (HI.out.2.1 y hy).1, u ++ 10 :: r, HI.out.1, by simp, .inr ⟨u, r, rfl, HU.out, fun b hb q => ?_⟩⟩, fun x hx => (HI.out.2.1 x hx).2, ?_, rfl⟩
        · rcases hno with h | h
          · have := hb.2.2
            rw [← q] at this
            omega
          · exact h b hb.1 hb.2.1 q
        · rw [HWZ.out]
          exact (HI.out.2.2.2.trans (hb3.mono HI.out.2.2.2.size)).trans ((below_new Y (.cells D 35)).mono (Nat.le_trans HI.out.2.2.2.size hb3.size)))
      clear hno hb2 hb3 hva hD
      go_wp2_with (refine wpList_store_row rfl 35 (.tmp 10) (.tmp 28) rfl Y.heap.size D rfl rfl 35 _ hoy hszd hold honed ?_)
      go_ret3
      exact HF.out
end
section
open Go.RowKit Go.Maps

/-- where the loop stands: the lines l end at a; the line that is open goes as far as i. -/
structure SpSt (s : Wd) (l : List EvM) (a i : Nat) : Prop where
  pre : s = joinE (l.map EvM.con) ++ s.drop a
  ai : a ≤ i
  il : i < s.length ∨ (i = s.length ∧ a = i)
  no : (10 : UInt8) ∉ (s.drop a).take (i - a)
  good : ∀ x ∈ l.map EvM.con, GoodE x
  bd : ∀ x ∈ l, EvBd x
theorem SpSt.len {s : Wd} {l : List EvM} {a i : Nat} (h : SpSt s l a i) : l.length ≤ s.length := by
  have h1 := joinE_count (l.map EvM.con)
  have h2 := congrArg List.length h.pre
  rw [List.length_append] at h2
  rw [List.length_map] at h1
  omega
theorem SpSt.start (s : Wd) : SpSt s [] 0 0 := ⟨by simp [joinE], Nat.le_refl _, by omega, by simp, (fun x hx => by cases hx), (fun x hx => by cases hx)⟩
theorem drop_split {s : Wd} {a i : Nat} (hai : a ≤ i) (hi : i < s.length) : s.drop a = (s.drop a).take (i - a) ++ s[i] :: s.drop (i + 1) := by
  conv => lhs; rw [← List.take_append_drop (i - a) (s.drop a), List.drop_drop, show a + (i - a) = i by omega, List.drop_eq_getElem_cons hi]
theorem SpSt.more {s : Wd} {l : List EvM} {a i : Nat} (h : SpSt s l a i) (hi : i + 1 < s.length) (hc : s[i]'(by omega) ≠ 10) : SpSt s l a (i + 1) := by
  refine ⟨h.pre, by have := h.ai; omega, .inl hi, ?_, h.good, h.bd⟩
  have e : (s.drop a).take (i + 1 - a) = (s.drop a).take (i - a) ++ [s[i]'(by omega)] := by
    have hl : i - a < (s.drop a).length := by have := h.ai; rw [List.length_drop]; omega
    rw [show i + 1 - a = (i - a) + 1 by have := h.ai; omega, List.take_succ_eq_append_getElem hl]
    congr 1
    simp only [List.getElem_drop, show a + (i - a) = i by have := h.ai; omega]
  rw [e]
  intro q
  rcases List.mem_append.1 q with q | q
  · exact h.no q
  · exact hc (List.mem_singleton.1 q).symm
theorem SpSt.line {s : Wd} {l : List EvM} {a i : Nat} (h : SpSt s l a i) (hi : i < s.length) (hc : s[i] = 10) {x : EvM} (hx : GoodE x.con) (hb : EvBd x) (he : (s.drop a).take (i - a) = evT x.con) : SpSt s (l ++ [x]) (i + 1) (i + 1) := by
  refine ⟨?_, Nat.le_refl _, by omega, by simp, fun y hy => ?_, fun y hy => ?_⟩
  · have h1 := h.pre
    rw [drop_split h.ai hi, hc, he] at h1
    conv => lhs; rw [h1]
    simp [joinE]
  · rw [List.map_append] at hy
    rcases List.mem_append.1 hy with q | q
    · exact h.good y q
    · rw [List.mem_singleton.1 q]; exact hx
  · rcases List.mem_append.1 hy with q | q
    · exact h.bd y q
    · rw [List.mem_singleton.1 q]; exact hb
theorem SpSt.badLast {s : Wd} {l : List EvM} {a i : Nat} (h : SpSt s l a i) (hi : i + 1 = s.length) (hc : s[i] ≠ 10) : BadT (s.drop a) := by
  have e := drop_split h.ai (show i < s.length by omega)
  rw [show s.drop (i + 1) = [] from List.drop_eq_nil_of_le (by omega)] at e
  refine ⟨by rw [e]; simp, .inl ?_⟩
  rw [e]
  intro q
  rcases List.mem_append.1 q with q | q
  · exact h.no q
  · exact hc (List.mem_singleton.1 q).symm
theorem SpSt.badLine {s : Wd} {l : List EvM} {a i : Nat} (h : SpSt s l a i) (hi : i < s.length) (hc : s[i] = 10) (hn : ∀ b, GoodE b → (s.drop a).take (i - a) ≠ evT b) : BadT (s.drop a) := by
  have e := drop_split h.ai hi
  rw [hc] at e
  exact ⟨by rw [e]; simp, .inr ⟨_, _, e, h.no, hn⟩⟩
set_option maxRecDepth 100000 in
set_option maxHeartbeats 16000000 in
theorem split51_any (S : ByteArray) (hS : S.size ≤ 65536) (w : World) : Calls Tryz.prog 23 #[.string S] w (RetPs S.data.toList w) := by
  have HPE := Lib.hid (fun (a i : Nat) (X : World) => show Calls Tryz.prog 10 #[.string (S.extract a i)] X (RetPe ((S.data.toList.drop a).take (i - a)) X) by
    have h := parse51_any (S.extract a i).data.toList (by rw [Lib.extract_data, List.length_take, List.length_drop]; have : S.data.toList.length = S.size := rfl; omega) X
    rw [bs_of', Lib.extract_data] at h
    exact h)
  have HS : S.data.toList.length = S.size := rfl
  have HS := Lib.hid HS
  go_enter Tryz.func23, Tryz.ntmps23
  go_wp2_with fail
  go_loopw [5, 6, 7, 8] (fun lv av nv iv X => ∃ (l : List EvM) (a i : Nat), av = .int .i64 a ∧ nv = .int .i64 l.length ∧ iv = .int .i64 i ∧ SpSt S.data.toList l a i ∧ EvsO X w.heap.size lv l ∧ Below w.heap.size w X) (fun _ _ _ iv _ => S.size - (intOf iv).toNat)
  case atStart => exact ⟨[], 0, 0, rfl, rfl, rfl, SpSt.start _, EvsO.nil _ _, Below.refl _ _⟩
  case round =>
    obtain ⟨l, a, i, rfl, rfl, rfl, hst, ho, hb⟩ := hrel
    have hll : l.length ≤ 65536 := by have := hst.len; have := HS.out; omega
    have hiN : i ≤ S.size := by have := hst.il; have := HS.out; omega
    have hai : a ≤ i := hst.ai
    have HI := Lib.hid (And.intro hst (And.intro ho hb))
    clear hst ho hb
    by_cases hend : i = S.size
    · have hlt : ¬ (i : Int) < (S.size : Int) := by omega
      have HT := Lib.hid (show S.data.toList.drop a = [] from List.drop_eq_nil_of_le (by have := HI.out.1.il; have := HS.out; omega))
      obtain ⟨A, c, e5, hat⟩ := HI.out.2.1.sl
      subst e5
      clear hat hend
      go_wp2_with fail
      go_ret3
      exact ⟨l, true, ⟨HI.out.1.good, S.data.toList.drop a, HI.out.1.pre, HT.out⟩, HI.out.1.bd, HI.out.2.2, A, c, rfl, HI.out.2.1⟩
    have hks : i < S.size := by omega
    have hlt : (i : Int) < (S.size : Int) := by omega
    have HGE : Hid (∀ h : i < S.data.toList.length, S.data.toList[i]'h = S[i]) := Lib.hid (fun h => rfl)
    have HP := Lib.hid (fun X : World => HPE.out a i X)
    clear hend
    by_cases hc : S[i] = 10
    · have HC := Lib.hid hc
      have e1 : ((S[i].toNat : Int) != 10) = false := by rw [hc]; decide
      clear hc
      go_wp2_with fail
      refine (HP.out _).mono ?_
      rintro e Y (⟨x, hok, hv, htx, hul2, he, hown, hbd, hb2⟩ | ⟨hno, he, hb2⟩)
      · have _h0 := True.intro
        obtain ⟨D, hD⟩ : ∃ D, D = (evCs x).toArray := ⟨_, rfl⟩
        have hva : evV x = .agg D := by rw [hD]; rfl
        rw [hva] at he
        subst he
        have hb3 : Below wr.heap.size wr Y := hb2
        have hszd : (Tryz.prog.info? 35).map (·.size) = some D.size := by rw [hD]; exact ev_size
        have honed : D.all (·.oneCell') = true := by rw [hD]; exact evCs_one _
        have hold : (#[.int .i64 0, .int .i64 0, .int .i64 0, .int .i64 0, .int .i64 0, .int .i64 0, .int .i64 0, .int .i64 0, .slice none 0 0, .int .i64 0, .int .i64 0, .int .i64 0, .int .i64 0, .int .i64 0, .int .i64 0, .int .i64 0, .int .i64 0, .int .i64 0, .int .i64 0, .int .i64 0, .int .i64 0, .int .i64 0, .int .i64 0, .int .i64 0, .int .i64 0, .slice none 0 0, .slice none 0 0, .slice none 0 0] : Array Value).size = D.size := by rw [hD]; rfl
        have hoy := new_obj Y (.cells #[.int .i64 0, .int .i64 0, .int .i64 0, .int .i64 0, .int .i64 0, .int .i64 0, .int .i64 0, .int .i64 0, .slice none 0 0, .int .i64 0, .int .i64 0, .int .i64 0, .int .i64 0, .int .i64 0, .int .i64 0, .int .i64 0, .int .i64 0, .int .i64 0, .int .i64 0, .int .i64 0, .int .i64 0, .int .i64 0, .int .i64 0, .int .i64 0, .int .i64 0, .slice none 0 0, .slice none 0 0, .slice none 0 0] 35)
        have HWZ := Lib.hid (World.setRow_alloc_new Y #[.int .i64 0, .int .i64 0, .int .i64 0, .int .i64 0, .int .i64 0, .int .i64 0, .int .i64 0, .int .i64 0, .slice none 0 0, .int .i64 0, .int .i64 0, .int .i64 0, .int .i64 0, .int .i64 0, .int .i64 0, .int .i64 0, .int .i64 0, .int .i64 0, .int .i64 0, .int .i64 0, .int .i64 0, .int .i64 0, .int .i64 0, .int .i64 0, .int .i64 0, .slice none 0 0, .slice none 0 0, .slice none 0 0] D 35)
        have hrow := setRow_heap _ _ _ D _ _ hoy
        have hfill : Instr.fill (fun i => some (i * 28, 28)) ((Array.range (1 * 28)).map ((Value.agg #[.int .i64 0, .int .i64 0, .int .i64 0, .int .i64 0, .int .i64 0, .int .i64 0, .int .i64 0, .int .i64 0, .slice none 0 0, .int .i64 0, .int .i64 0, .int .i64 0, .int .i64 0, .int .i64 0, .int .i64 0, .int .i64 0, .int .i64 0, .int .i64 0, .int .i64 0, .int .i64 0, .int .i64 0, .int .i64 0, .int .i64 0, .int .i64 0, .int .i64 0, .slice none 0 0, .slice none 0 0, .slice none 0 0]).cells[· % (Value.agg #[.int .i64 0, .int .i64 0, .int .i64 0, .int .i64 0, .int .i64 0, .int .i64 0, .int .i64 0, .int .i64 0, .slice none 0 0, .int .i64 0, .int .i64 0, .int .i64 0, .int .i64 0, .int .i64 0, .int .i64 0, .int .i64 0, .int .i64 0, .int .i64 0, .int .i64 0, .int .i64 0, .int .i64 0, .int .i64 0, .int .i64 0, .int .i64 0, .int .i64 0, .slice none 0 0, .slice none 0 0, .slice none 0 0]).cells.size]!)) [(0, .agg D)] = some D := fill_ev D (by rw [hD]; rfl) _
        obtain ⟨ie, hie, hiz, his, _⟩ := info_parts ev_info
        have HO6 : Hid (EvsO ((Y.alloc (.cells #[.int .i64 0, .int .i64 0, .int .i64 0, .int .i64 0, .int .i64 0, .int .i64 0, .int .i64 0, .int .i64 0, .slice none 0 0, .int .i64 0, .int .i64 0, .int .i64 0, .int .i64 0, .int .i64 0, .int .i64 0, .int .i64 0, .int .i64 0, .int .i64 0, .int .i64 0, .int .i64 0, .int .i64 0, .int .i64 0, .int .i64 0, .int .i64 0, .int .i64 0, .slice none 0 0, .slice none 0 0, .slice none 0 0] 35)).setRow Y.heap.size D) w.heap.size u5 l ∧ EvO ((Y.alloc (.cells #[.int .i64 0, .int .i64 0, .int .i64 0, .int .i64 0, .int .i64 0, .int .i64 0, .int .i64 0, .int .i64 0, .slice none 0 0, .int .i64 0, .int .i64 0, .int .i64 0, .int .i64 0, .int .i64 0, .int .i64 0, .int .i64 0, .int .i64 0, .int .i64 0, .int .i64 0, .int .i64 0, .int .i64 0, .int .i64 0, .int .i64 0, .int .i64 0, .int .i64 0, .slice none 0 0, .slice none 0 0, .slice none 0 0] 35)).setRow Y.heap.size D) w.heap.size x ∧ Below w.heap.size w ((Y.alloc (.cells #[.int .i64 0, .int .i64 0, .int .i64 0, .int .i64 0, .int .i64 0, .int .i64 0, .int .i64 0, .int .i64 0, .slice none 0 0, .int .i64 0, .int .i64 0, .int .i64 0, .int .i64 0, .int .i64 0, .int .i64 0, .int .i64 0, .int .i64 0, .int .i64 0, .int .i64 0, .int .i64 0, .int .i64 0, .int .i64 0, .int .i64 0, .int .i64 0, .int .i64 0, .slice none 0 0, .slice none 0 0, .slice none 0 0] 35)).setRow Y.heap.size D)) := Lib.hid (by
          rw [HWZ.out]
          have hb4 := below_new Y (.cells D 35)
          exact ⟨(HI.out.2.1.next hb3).next hb4, (hown.next hb4).base HI.out.2.2.size, (HI.out.2.2.trans (hb3.mono HI.out.2.2.size)).trans (hb4.mono (Nat.le_trans HI.out.2.2.size hb3.size))⟩)
        have HN := Lib.hid (HI.out.1.line (by have := HS.out; omega) (by rw [HGE.out, HC.out]) (x := x) ⟨hv, hok, by rw [← htx]; exact hul2⟩ hbd htx)
        have HDD := Lib.hid hD
        clear hok hv htx hul2 hown hbd hb2 hb3 hva hD
        go_wp2_with (first | (refine wpList_store_row rfl 35 (.tmp 9) (.tmp 36) rfl Y.heap.size D rfl rfl 35 _ hoy hszd hold honed ?_) | (refine wpList_load_row_g (by rfl) 35 (.tmp 9) rfl Y.heap.size rfl 35 D (0, 0) _ hrow Tryz.underlying35 rfl hszd ?_) | (refine wpList_buildSlice rfl 44 35 1 #[(0, .tmp 48)] rfl D ie _ Tryz.underlying44 hie hiz (by rw [his]; decide) (by rw [his]; decide) (by rw [his, Array.toList_map]; exact hfill) ?_) | (at_builtin; refine wpList_append_big (cs := evCs) (s := 28) _ rfl _ _ 44 rfl w.heap.size 35 Tryz.underlying44 ev_info rfl (by decide) (by decide) evCs_len _ l ((Y.alloc (.cells #[.int .i64 0, .int .i64 0, .int .i64 0, .int .i64 0, .int .i64 0, .int .i64 0, .int .i64 0, .int .i64 0, .slice none 0 0, .int .i64 0, .int .i64 0, .int .i64 0, .int .i64 0, .int .i64 0, .int .i64 0, .int .i64 0, .int .i64 0, .int .i64 0, .int .i64 0, .int .i64 0, .int .i64 0, .int .i64 0, .int .i64 0, .int .i64 0, .int .i64 0, .slice none 0 0, .slice none 0 0, .slice none 0 0] 35)).setRow Y.heap.size D) x (by have := evCs_one x; simpa using this) D HDD.out rfl rfl HO6.out.1.row _ rfl rfl (by omega) HO6.out.2.2.size ?_; intro v5 w5 hown5 hg5))
        have H5 := Lib.hid (And.intro (HO6.out.1.push hown5 hg5 HO6.out.2.1) (HO6.out.2.2.grown hg5 HO6.out.2.2.size (fun j e => OwnR.ge_base HO6.out.1.row j e)))
        clear hown5 hg5
        go_wp2_with fail
        go_roundw
        case rel => exact ⟨l ++ [x], i + 1, i + 1, by go_num, by rw [List.length_append]; go_num, by go_num, HN.out, H5.out.1, H5.out.2⟩
        case measure => simp [intOf]; omega
      · have _h0 := True.intro
        obtain ⟨D, hD⟩ : ∃ D, D = (evCs (EvM.zero 0 0)).toArray := ⟨_, rfl⟩
        have hva : evV (EvM.zero 0 0) = .agg D := by rw [hD]; rfl
        rw [hva] at he
        subst he
        have hb3 : Below wr.heap.size wr Y := hb2
        have hszd : (Tryz.prog.info? 35).map (·.size) = some D.size := by rw [hD]; exact ev_size
        have honed : D.all (·.oneCell') = true := by rw [hD]; exact evCs_one _
        have hold : (#[.int .i64 0, .int .i64 0, .int .i64 0, .int .i64 0, .int .i64 0, .int .i64 0, .int .i64 0, .int .i64 0, .slice none 0 0, .int .i64 0, .int .i64 0, .int .i64 0, .int .i64 0, .int .i64 0, .int .i64 0, .int .i64 0, .int .i64 0, .int .i64 0, .int .i64 0, .int .i64 0, .int .i64 0, .int .i64 0, .int .i64 0, .int .i64 0, .int .i64 0, .slice none 0 0, .slice none 0 0, .slice none 0 0] : Array Value).size = D.size := by rw [hD]; rfl
        have hoy := new_obj Y (.cells #[.int .i64 0, .int .i64 0, .int .i64 0, .int .i64 0, .int .i64 0, .int .i64 0, .int .i64 0, .int .i64 0, .slice none 0 0, .int .i64 0, .int .i64 0, .int .i64 0, .int .i64 0, .int .i64 0, .int .i64 0, .int .i64 0, .int .i64 0, .int .i64 0, .int .i64 0, .int .i64 0, .int .i64 0, .int .i64 0, .int .i64 0, .int .i64 0, .int .i64 0, .slice none 0 0, .slice none 0 0, .slice none 0 0] 35)
        have HWZ := Lib.hid (World.setRow_alloc_new Y #[.int .i64 0, .int .i64 0, .int .i64 0, .int .i64 0, .int .i64 0, .int .i64 0, .int .i64 0, .int .i64 0, .slice none 0 0, .int .i64 0, .int .i64 0, .int .i64 0, .int .i64 0, .int .i64 0, .int .i64 0, .int .i64 0, .int .i64 0, .int .i64 0, .int .i64 0, .int .i64 0, .int .i64 0, .int .i64 0, .int .i64 0, .int .i64 0, .int .i64 0, .slice none 0 0, .slice none 0 0, .slice none 0 0] D 35)
        have HF : Hid (RetPs S.data.toList w (.returned (.tuple #[.slice none 0 0, .int .i64 (l.length + 1), .int .i64 2])) ((Y.alloc (.cells #[.int .i64 0, .int .i64 0, .int .i64 0, .int .i64 0, .int .i64 0, .int .i64 0, .int .i64 0, .int .i64 0, .slice none 0 0, .int .i64 0, .int .i64 0, .int .i64 0, .int .i64 0, .int .i64 0, .int .i64 0, .int .i64 0, .int .i64 0, .int .i64 0, .int .i64 0, .int .i64 0, .int .i64 0, .int .i64 0, .int .i64 0, .int .i64 0, .int .i64 0, .slice none 0 0, .slice none 0 0, .slice none 0 0] 35)).setRow Y.heap.size D)) := Lib.hid ⟨l, false, ⟨HI.out.1.good, S.data.toList.drop a, HI.out.1.pre, by simp only [Bool.false_eq_true, if_false]; exact HI.out.1.badLine (by have := HS.out; omega) (by rw [HGE.out, HC.out]) (fun b hb q => by
            rcases hno with h | h
            · have := hb.2.2
              rw [← q] at this
              omega
            · exact h b hb.1 hb.2.1 q)⟩, HI.out.1.bd, (by
            rw [HWZ.out]
            exact (HI.out.2.2.trans (hb3.mono HI.out.2.2.size)).trans ((below_new Y (.cells D 35)).mono (Nat.le_trans HI.out.2.2.size hb3.size))), rfl⟩
        clear hno hb2 hb3 hva hD
        go_wp2_with (refine wpList_store_row rfl 35 (.tmp 9) (.tmp 36) rfl Y.heap.size D rfl rfl 35 _ hoy hszd hold honed ?_)
        go_ret3
        exact HF.out
    · have hne : ((S[i].toNat : Int) != 10) = true := by
        rw [bne_iff_ne]
        intro e
        apply hc
        apply UInt8.toNat_inj.1
        have : S[i].toNat = 10 := by omega
        exact this
      have HC := Lib.hid hc
      clear hc
      by_cases hlast : i + 1 = S.size
      · have d1 : decide ((i : Int) + 1 < (S.size : Int)) = false := decide_eq_false (by omega)
        have HL := Lib.hid hlast
        clear hlast
        have HBT := Lib.hid (HI.out.1.badLast (by have := HS.out; have := HL.out; omega) (by rw [HGE.out]; exact HC.out))
        go_wp2_with fail
        refine (HP.out _).mono ?_
        rintro e Y (⟨x, hok, hv, htx, hul2, he, hown, hbd, hb2⟩ | ⟨hno, he, hb2⟩)
        · clear hok hv htx hul2 hown hbd
          obtain ⟨D, hD⟩ : ∃ D, D = (evCs x).toArray := ⟨_, rfl⟩
          have hva : evV x = .agg D := by rw [hD]; rfl
          rw [hva] at he
          subst he
          have hb3 : Below wr.heap.size wr Y := hb2
          have hszd : (Tryz.prog.info? 35).map (·.size) = some D.size := by rw [hD]; exact ev_size
          have honed : D.all (·.oneCell') = true := by rw [hD]; exact evCs_one _
          have hold : (#[.int .i64 0, .int .i64 0, .int .i64 0, .int .i64 0, .int .i64 0, .int .i64 0, .int .i64 0, .int .i64 0, .slice none 0 0, .int .i64 0, .int .i64 0, .int .i64 0, .int .i64 0, .int .i64 0, .int .i64 0, .int .i64 0, .int .i64 0, .int .i64 0, .int .i64 0, .int .i64 0, .int .i64 0, .int .i64 0, .int .i64 0, .int .i64 0, .int .i64 0, .slice none 0 0, .slice none 0 0, .slice none 0 0] : Array Value).size = D.size := by rw [hD]; rfl
          have hoy := new_obj Y (.cells #[.int .i64 0, .int .i64 0, .int .i64 0, .int .i64 0, .int .i64 0, .int .i64 0, .int .i64 0, .int .i64 0, .slice none 0 0, .int .i64 0, .int .i64 0, .int .i64 0, .int .i64 0, .int .i64 0, .int .i64 0, .int .i64 0, .int .i64 0, .int .i64 0, .int .i64 0, .int .i64 0, .int .i64 0, .int .i64 0, .int .i64 0, .int .i64 0, .int .i64 0, .slice none 0 0, .slice none 0 0, .slice none 0 0] 35)
          have HWZ := Lib.hid (World.setRow_alloc_new Y #[.int .i64 0, .int .i64 0, .int .i64 0, .int .i64 0, .int .i64 0, .int .i64 0, .int .i64 0, .int .i64 0, .slice none 0 0, .int .i64 0, .int .i64 0, .int .i64 0, .int .i64 0, .int .i64 0, .int .i64 0, .int .i64 0, .int .i64 0, .int .i64 0, .int .i64 0, .int .i64 0, .int .i64 0, .int .i64 0, .int .i64 0, .int .i64 0, .int .i64 0, .slice none 0 0, .slice none 0 0, .slice none 0 0] D 35)
          have HF : Hid (RetPs S.data.toList w (.returned (.tuple #[.slice none 0 0, .int .i64 (l.length + 1), .int .i64 2])) ((Y.alloc (.cells #[.int .i64 0, .int .i64 0, .int .i64 0, .int .i64 0, .int .i64 0, .int .i64 0, .int .i64 0, .int .i64 0, .slice none 0 0, .int .i64 0, .int .i64 0, .int .i64 0, .int .i64 0, .int .i64 0, .int .i64 0, .int .i64 0, .int .i64 0, .int .i64 0, .int .i64 0, .int .i64 0, .int .i64 0, .int .i64 0, .int .i64 0, .int .i64 0, .int .i64 0, .slice none 0 0, .slice none 0 0, .slice none 0 0] 35)).setRow Y.heap.size D)) := Lib.hid ⟨l, false, ⟨HI.out.1.good, S.data.toList.drop a, HI.out.1.pre, by simp only [Bool.false_eq_true, if_false]; exact HBT.out⟩, HI.out.1.bd, (by
              rw [HWZ.out]
              exact (HI.out.2.2.trans (hb3.mono HI.out.2.2.size)).trans ((below_new Y (.cells D 35)).mono (Nat.le_trans HI.out.2.2.size hb3.size))), rfl⟩
          clear hb2 hb3 hva hD
          go_wp2_with (refine wpList_store_row rfl 35 (.tmp 9) (.tmp 36) rfl Y.heap.size D rfl rfl 35 _ hoy hszd hold honed ?_)
          go_ret3
          exact HF.out
        · clear hno
          obtain ⟨D, hD⟩ : ∃ D, D = (evCs (EvM.zero 0 0)).toArray := ⟨_, rfl⟩
          have hva : evV (EvM.zero 0 0) = .agg D := by rw [hD]; rfl
          rw [hva] at he
          subst he
          have hb3 : Below wr.heap.size wr Y := hb2
          have hszd : (Tryz.prog.info? 35).map (·.size) = some D.size := by rw [hD]; exact ev_size
          have honed : D.all (·.oneCell') = true := by rw [hD]; exact evCs_one _
          have hold : (#[.int .i64 0, .int .i64 0, .int .i64 0, .int .i64 0, .int .i64 0, .int .i64 0, .int .i64 0, .int .i64 0, .slice none 0 0, .int .i64 0, .int .i64 0, .int .i64 0, .int .i64 0, .int .i64 0, .int .i64 0, .int .i64 0, .int .i64 0, .int .i64 0, .int .i64 0, .int .i64 0, .int .i64 0, .int .i64 0, .int .i64 0, .int .i64 0, .int .i64 0, .slice none 0 0, .slice none 0 0, .slice none 0 0] : Array Value).size = D.size := by rw [hD]; rfl
          have hoy := new_obj Y (.cells #[.int .i64 0, .int .i64 0, .int .i64 0, .int .i64 0, .int .i64 0, .int .i64 0, .int .i64 0, .int .i64 0, .slice none 0 0, .int .i64 0, .int .i64 0, .int .i64 0, .int .i64 0, .int .i64 0, .int .i64 0, .int .i64 0, .int .i64 0, .int .i64 0, .int .i64 0, .int .i64 0, .int .i64 0, .int .i64 0, .int .i64 0, .int .i64 0, .int .i64 0, .slice none 0 0, .slice none 0 0, .slice none 0 0] 35)
          have HWZ := Lib.hid (World.setRow_alloc_new Y #[.int .i64 0, .int .i64 0, .int .i64 0, .int .i64 0, .int .i64 0, .int .i64 0, .int .i64 0, .int .i64 0, .slice none 0 0, .int .i64 0, .int .i64 0, .int .i64 0, .int .i64 0, .int .i64 0, .int .i64 0, .int .i64 0, .int .i64 0, .int .i64 0, .int .i64 0, .int .i64 0, .int .i64 0, .int .i64 0, .int .i64 0, .int .i64 0, .int .i64 0, .slice none 0 0, .slice none 0 0, .slice none 0 0] D 35)
          have HF : Hid (RetPs S.data.toList w (.returned (.tuple #[.slice none 0 0, .int .i64 (l.length + 1), .int .i64 2])) ((Y.alloc (.cells #[.int .i64 0, .int .i64 0, .int .i64 0, .int .i64 0, .int .i64 0, .int .i64 0, .int .i64 0, .int .i64 0, .slice none 0 0, .int .i64 0, .int .i64 0, .int .i64 0, .int .i64 0, .int .i64 0, .int .i64 0, .int .i64 0, .int .i64 0, .int .i64 0, .int .i64 0, .int .i64 0, .int .i64 0, .int .i64 0, .int .i64 0, .int .i64 0, .int .i64 0, .slice none 0 0, .slice none 0 0, .slice none 0 0] 35)).setRow Y.heap.size D)) := Lib.hid ⟨l, false, ⟨HI.out.1.good, S.data.toList.drop a, HI.out.1.pre, by simp only [Bool.false_eq_true, if_false]; exact HBT.out⟩, HI.out.1.bd, (by
              rw [HWZ.out]
              exact (HI.out.2.2.trans (hb3.mono HI.out.2.2.size)).trans ((below_new Y (.cells D 35)).mono (Nat.le_trans HI.out.2.2.size hb3.size))), rfl⟩
          clear hb2 hb3 hva hD
          go_wp2_with (refine wpList_store_row rfl 35 (.tmp 9) (.tmp 36) rfl Y.heap.size D rfl rfl 35 _ hoy hszd hold honed ?_)
          go_ret3
          exact HF.out
      · have d1 : decide ((i : Int) + 1 < (S.size : Int)) = true := decide_eq_true (by omega)
        have HN := Lib.hid (HI.out.1.more (by have := HS.out; omega) (by rw [HGE.out]; exact HC.out))
        clear hlast
        go_wp2_with fail
        go_roundw
        case rel => exact ⟨l, a, i + 1, rfl, rfl, by go_num, HN.out, HI.out.2.1, HI.out.2.2⟩
        case measure => simp [intOf]; omega
end
section
open Go.RowKit Go.Maps

section
variable {α : Type} {cs : α → List Value} {s : Nat} {P : Program} (w : World)
theorem flat_nil {ys : List α} (hs : ∀ a, (cs a).length = s) (h0 : 0 < s) (h : ys.flatMap cs = []) : ys = [] := by
  have := congrArg List.length h
  rw [flat_len hs, List.length_nil] at this
  rcases Nat.mul_eq_zero.1 this with h | h
  · exact List.length_eq_zero_iff.1 h
  · omega
theorem run_append_recs (hcs : ∀ a, (cs a).length = s) (t ty e : TypeId) (ht : P.underlying t = some (.slice e)) {z0 : Value} {by0 : Nat} (hinfo : (P.info? e).map (fun i => (i.zero, i.size, i.bytes)) = some (some z0, s, by0)) (hz0 : z0.cells.size = s) (h0 : 0 < s) (hby : by0 ≤ 512)
    (base : Nat) (v : Value) (zs : List α) (hown : OwnR cs s w base e v zs) (B : Nat) (A : Option Addr) (m c : Nat) (ys : List α) (hm : m = ys.length) (hnc : A = none → c = 0) (hs : RecsAt cs w B A ys) (hone : ∀ y ∈ ys, ∀ u ∈ cs y, u.oneCell' = true)
    (hlen : zs.length + ys.length ≤ 274877906944) (hbase : base ≤ w.heap.size) :
    ∃ v' w', (Builtin.append_ #[t, t] ty #[v, .slice A m c]).run P w = .ok v' w' ∧ OwnR cs s w' base e v' (zs ++ ys) ∧ w.grownBy w' v.ownBlock := by
  obtain ⟨i0, hi, hz1, hz2, hz3⟩ := info_parts hinfo
  subst hm
  cases A with
  | none =>
    have hn := Sl.nil_of_none hs
    have hy : ys = [] := flat_nil hcs h0 hn
    subst hy
    obtain rfl := hnc rfl
    exact ⟨v, w, run_append_owned_none (P := P) (w := w) base t ty e i0 s ht hi v zs.length _ hown, by simpa using hown, World.grownBy.refl w _⟩
  | some ad =>
    have hcells : ∀ j u, (ys.flatMap cs)[j]? = some u → w.cell? (ad.add j) = some u := by
      intro j u hj
      obtain ⟨b, o, e, _, hc⟩ := hs j u hj
      injection e with e
      subst e
      rw [add_none]
      exact hc
    obtain ⟨v', w', hr, h2, h3, _⟩ := run_append_own (P := P) w base t ty e i0 z0 s by0 ht hi hz1 hz2 hz3 hz0 h0 v zs.length _ hown ad ys.length c (ys.flatMap cs) (flat_len hcs ys) hcells
      (by intro u hu; rw [List.mem_flatMap] at hu; obtain ⟨y, hy, hu⟩ := hu; exact hone y hy u hu) (by unfold maxLen; omega) (by have := Nat.mul_le_mul hlen hby; omega) hbase
    refine ⟨v', w', hr, ?_, h3⟩
    unfold OwnR
    rw [List.length_append, List.flatMap_append]
    exact h2
theorem step_append_recs {ops : Array Oper} {o : Oper} {a : Act} {K : Act → World → Prop} {Q : Exit → Act → World → Prop} {E : Prop} (hw : Region.wanted o (yielded ops a.tmps) = true) (hcs : ∀ a, (cs a).length = s) (sl x : Operand) (t : TypeId)
    (ho : o.op = .call { callee := .builtin .append, args := #[sl, x], argTypes := #[t, t] }) (e : TypeId) (ht : P.underlying t = some (.slice e)) {z0 : Value} {by0 : Nat} (hinfo : (P.info? e).map (fun i => (i.zero, i.size, i.bytes)) = some (some z0, s, by0)) (hz0 : z0.cells.size = s) (h0 : 0 < s) (hby : by0 ≤ 512)
    (base : Nat) (v : Value) (zs : List α) (hv : a.eval sl = v) (hown : OwnR cs s w base e v zs) (B : Nat) (A : Option Addr) (m c : Nat) (ys : List α) (hx : a.eval x = .slice A m c) (hm : m = ys.length) (hnc : A = none → c = 0) (hs : RecsAt cs w B A ys) (hone : ∀ y ∈ ys, ∀ u ∈ cs y, u.oneCell' = true)
    (hlen : zs.length + ys.length ≤ 274877906944) (hbase : base ≤ w.heap.size)
    (h : ∀ v' w', OwnR cs s w' base e v' (zs ++ ys) → w.grownBy w' v.ownBlock → K (a.put o.dst v') w') : if Region.wanted o (yielded ops a.tmps) = true then Oper.wp P o a w K Q else E := by
  rw [if_pos hw]
  obtain ⟨v', w', hrun, h2, h3⟩ := run_append_recs w hcs t o.type e ht hinfo hz0 h0 hby base v zs hown B A m c ys hm hnc hs hone hlen hbase
  unfold Oper.wp execOp
  simp only [ho, resolve, invoke, builtin, Sem.run_bind, Sem.run_pure, Result.andThen_ok, List.map_toArray, List.map_cons, List.map_nil, hv, hx, hrun]
  exact h v' w' h2 h3
/-- a row that the call laid whole. -/
theorem OwnR.lit (hcs : ∀ a, (cs a).length = s) (base : Nat) (e : TypeId) (zs : List α) {n : Nat} (hn : n = w.heap.size) (hb : base ≤ n) (hm : zs.length ≤ 4398046511104) (vs : Array Value) (hvs : vs = (zs.flatMap cs).toArray) :
    OwnR cs s (w.alloc (.cells vs e)) base e (.slice (some ⟨n, 0, none⟩) zs.length zs.length) zs := by
  subst hn hvs
  have := World.ownsRow_lit (base := base) (e := e) (size := s) w (zs.flatMap cs).toArray zs.length hb (by unfold maxLen; omega) (by simpa using flat_len hcs zs)
  unfold OwnR
  simpa using this
theorem wpList_append_recs {ops : Array Oper} {rest : List Oper} {o : Oper} {a : Act} {Q : Exit → Act → World → Prop} (hw : Region.wanted o (yielded ops a.tmps) = true) (hcs : ∀ a, (cs a).length = s) (sl x : Operand) (t : TypeId)
    (ho : o.op = .call { callee := .builtin .append, args := #[sl, x], argTypes := #[t, t] }) (e : TypeId) (ht : P.underlying t = some (.slice e)) {z0 : Value} {by0 : Nat} (hinfo : (P.info? e).map (fun i => (i.zero, i.size, i.bytes)) = some (some z0, s, by0)) (hz0 : z0.cells.size = s) (h0 : 0 < s) (hby : by0 ≤ 512)
    (base : Nat) (v : Value) (zs : List α) (hv : a.eval sl = v) (hown : OwnR cs s w base e v zs) (B : Nat) (A : Option Addr) (m c : Nat) (ys : List α) (hx : a.eval x = .slice A m c) (hm : m = ys.length) (hnc : A = none → c = 0) (hs : RecsAt cs w B A ys) (hone : ∀ y ∈ ys, ∀ u ∈ cs y, u.oneCell' = true)
    (hlen : zs.length + ys.length ≤ 274877906944) (hbase : base ≤ w.heap.size)
    (h : ∀ v' w', OwnR cs s w' base e v' (zs ++ ys) → w.grownBy w' v.ownBlock → wpList P ops Q rest (a.put o.dst v') w') : wpList P ops Q (o :: rest) a w := by
  obtain ⟨v', w', hrun, h2, h3⟩ := run_append_recs w hcs t o.type e ht hinfo hz0 h0 hby base v zs hown B A m c ys hm hnc hs hone hlen hbase
  refine BigFrame.wpList_want hw fun _ hK => ?_
  unfold Oper.wp execOp
  simp only [ho, resolve, invoke, builtin, Sem.run_bind, Sem.run_pure, Result.andThen_ok, List.map_toArray, List.map_cons, List.map_nil, hv, hx, hrun]
  exact hK _ _ (h v' w' h2 h3)
end
end
section
open Go.RowKit Go.Maps

set_option maxRecDepth 100000 in
set_option maxHeartbeats 8000000 in
theorem same51_any (w : World) (A C : Option Addr) (c d : Nat) (us vs : List EvM) (BA BB : Nat) (ha : EvsAt w BA A us) (hb : EvsAt w BB C vs) (hA : BA ≤ w.heap.size) (hB : BB ≤ w.heap.size) (hl : ∀ e ∈ us, ActL e.act) (hn : us.length ≤ 9223372036854775806) :
    Calls Tryz.prog 24 #[.slice A us.length c, .slice C vs.length d] w fun e w' => e = .returned (.bool (tb (us.map EvM.con = vs.map EvM.con))) ∧ Below w.heap.size w w' := by
  by_cases hlen : us.length = vs.length
  rotate_left
  · have e1 : ((us.length : Int) != (vs.length : Int)) = true := by simp; omega
    have HNE : Hid (¬ us.map EvM.con = vs.map EvM.con) := fun q => hlen (by have := congrArg List.length q; simpa using this)
    obtain ⟨n, hnn⟩ : ∃ n, n = us.length := ⟨_, rfl⟩
    obtain ⟨m, hm⟩ : ∃ m, m = vs.length := ⟨_, rfl⟩
    rw [← hnn, ← hm] at e1 ⊢
    clear hlen ha hb hA hB hl hn hnn hm
    go_enter Tryz.func24, Tryz.ntmps24
    go_wp2_with fail
    go_ret
    exact ⟨ret_no HNE.out, Below.refl _ _⟩
  have HA := Lib.hid (And.intro ha (And.intro hb (And.intro hA (And.intro hB hl))))
  obtain ⟨n, hnn⟩ : ∃ n, n = us.length := ⟨_, rfl⟩
  have HN := Lib.hid (And.intro hnn (hnn.trans hlen))
  rw [← hlen, ← hnn]
  have hnb : n ≤ 9223372036854775806 := by omega
  have e1 : ((n : Int) != (n : Int)) = false := by simp
  clear ha hb hA hB hl hn hnn hlen
  go_enter Tryz.func24, Tryz.ntmps24
  go_wp2_with fail
  clear e1
  go_loopw [5] (fun iv X => ∃ k : Nat, k ≤ n ∧ iv = .int .i64 k ∧ (us.map EvM.con).take k = (vs.map EvM.con).take k ∧ Below w.heap.size w X) (fun iv _ => n - (intOf iv).toNat)
  case atStart => exact ⟨0, Nat.zero_le _, rfl, rfl, Below.refl _ _⟩
  case round =>
    obtain ⟨k, hk, rfl, htk, hbl⟩ := hrel
    have HR := Lib.hid (And.intro htk hbl)
    clear htk hbl
    by_cases hlt : k < n
    · have hlt' : (k : Int) < (n : Int) := by omega
      obtain ⟨x, hx⟩ : ∃ x, us[k]? = some x := ⟨us[k]'(by have := HN.out.1; omega), by simp⟩
      obtain ⟨y, hy⟩ : ∃ y, vs[k]? = some y := ⟨vs[k]'(by have := HN.out.2; omega), by simp⟩
      have HXX := Lib.hid (And.intro hx hy)
      obtain ⟨ab, ao, hAe, hab, hra⟩ := ev_range HA.out.1.row hx
      obtain ⟨bb, bo, hBe, hbb, hrb⟩ := ev_range HA.out.2.1.row hy
      obtain ⟨X, hX⟩ : ∃ X, X = evCs x := ⟨_, rfl⟩
      obtain ⟨Y, hY⟩ : ∃ Y, Y = evCs y := ⟨_, rfl⟩
      have HSX := Lib.hid (And.intro (show (Tryz.prog.info? 35).map (·.size) = some X.length by rw [hX]; exact ev_size) (show (Tryz.prog.info? 35).map (·.size) = some Y.length by rw [hY]; exact ev_size))
      have HTO := Lib.hid (show ∀ Z : World, Below wr.heap.size wr Z → Below w.heap.size w Z from fun Z hz => HR.out.2.trans (hz.mono HR.out.2.size))
      have HRX := Lib.hid (And.intro (show ∀ Z : World, Below wr.heap.size wr Z → Z.rangeAt ab (ao + k * 28) X from fun Z hz j v hj => ((HTO.out Z hz).cell (p := ⟨ab, ao + k * 28 + j, none⟩) (Nat.lt_of_lt_of_le hab HA.out.2.2.1)).trans (hra j v (by rw [← hX]; exact hj))) (show ∀ Z : World, Below wr.heap.size wr Z → Z.rangeAt bb (bo + k * 28) Y from fun Z hz j v hj => ((HTO.out Z hz).cell (p := ⟨bb, bo + k * 28 + j, none⟩) (Nat.lt_of_lt_of_le hbb HA.out.2.2.2.1)).trans (hrb j v (by rw [← hY]; exact hj))))
      have HON := Lib.hid (fun (Z : World) (hz : Below wr.heap.size wr Z) => one_any x y Z BA BB ((HA.out.1.evs x (List.mem_of_getElem? hx)).below ((HTO.out Z hz).mono HA.out.2.2.1)) ((HA.out.2.1.evs y (List.mem_of_getElem? hy)).below ((HTO.out Z hz).mono HA.out.2.2.2.1)) (Nat.le_trans HA.out.2.2.1 (HTO.out Z hz).size) (Nat.le_trans HA.out.2.2.2.1 (HTO.out Z hz).size) (HA.out.2.2.2.2 x (List.mem_of_getElem? hx)))
      rw [show evV x = .agg X.toArray by rw [hX]; rfl, show evV y = .agg Y.toArray by rw [hY]; rfl] at HON
      have HHD := Lib.hid (show Below wr.heap.size wr wr.drew from below_dr (Below.refl _ _) 1)
      have HSN : Hid ((us.map EvM.con).take (k + 1) = (vs.map EvM.con).take (k + 1) ↔ x.con = y.con) := Lib.hid (by
        rw [take_snoc (show (us.map EvM.con)[k]? = some x.con by rw [List.getElem?_map, HXX.out.1]; rfl), take_snoc (show (vs.map EvM.con)[k]? = some y.con by rw [List.getElem?_map, HXX.out.2]; rfl), HR.out.1]
        simp)
      rw [hAe, hBe]
      clear hx hy hAe hab hra hBe hbb hrb hX hY
      go_wp2_with fail
      by_cases hxy : x.con = y.con
      · have HXY := Lib.hid hxy
        clear hxy
        refine wp_region_held_drew (S := fun W' => Below wr.heap.size wr W') (by kernel_rfl) HHD.out (fun hHeld => ?_)
        refine wpAnyH_take (i := 0) (v := .slice (some ⟨ab, ao, none⟩) n c) rfl (by kernel_rfl) (by kernel_rfl) (by kernel_rfl) (fun _ _ _ h => h) (Or.inl ⟨by rfl, ?_⟩) (by assumption) ?_
        · intro w' hSw
          go_simp
        show wpAnyH _ _ _ _ _ _ _ (Act.put _ (some 17) _) _
        simp only [Act.put, List.setIfInBounds_toArray, List.set_cons_zero, List.set_cons_succ]
        refine wpAnyH_take (i := 1) (v := .int .i64 k) rfl (by kernel_rfl) (by kernel_rfl) (by kernel_rfl) (fun _ _ _ h => h) (Or.inl ⟨by rfl, ?_⟩) (by assumption) ?_
        · intro w' hSw
          go_simp
        show wpAnyH _ _ _ _ _ _ _ (Act.put _ (some 18) _) _
        simp only [Act.put, List.setIfInBounds_toArray, List.set_cons_zero, List.set_cons_succ]
        refine wpAnyH_take (i := 2) (v := .pointer (some ⟨ab, ao + k * 28, none⟩)) rfl (by kernel_rfl) (by kernel_rfl) (by kernel_rfl) (fun _ _ _ h => h) (Or.inl ⟨by rfl, ?_⟩) (by assumption) ?_
        · intro w' hSw
          go_simp
        show wpAnyH _ _ _ _ _ _ _ (Act.put _ (some 19) _) _
        simp only [Act.put, List.setIfInBounds_toArray, List.set_cons_zero, List.set_cons_succ]
        refine wpAnyH_take (i := 3) (v := .agg X.toArray) rfl (by kernel_rfl) (by kernel_rfl) (by kernel_rfl) (fun _ _ _ h => h) (yieldsIf_load_mid (by rfl) 35 (.tmp 19) rfl ab (ao + k * 28) rfl X _ (fun w' hSw => HRX.out.1 w' hSw) Tryz.underlying35 rfl HSX.out.1) (by assumption) ?_
        show wpAnyH _ _ _ _ _ _ _ (Act.put _ (some 20) _) _
        simp only [Act.put, List.setIfInBounds_toArray, List.set_cons_zero, List.set_cons_succ]
        refine wpAnyH_take (i := 4) (v := .slice (some ⟨bb, bo, none⟩) n d) rfl (by kernel_rfl) (by kernel_rfl) (by kernel_rfl) (fun _ _ _ h => h) (Or.inl ⟨by rfl, ?_⟩) (by assumption) ?_
        · intro w' hSw
          go_simp
        show wpAnyH _ _ _ _ _ _ _ (Act.put _ (some 21) _) _
        simp only [Act.put, List.setIfInBounds_toArray, List.set_cons_zero, List.set_cons_succ]
        refine wpAnyH_take (i := 5) (v := .int .i64 k) rfl (by kernel_rfl) (by kernel_rfl) (by kernel_rfl) (fun _ _ _ h => h) (Or.inl ⟨by rfl, ?_⟩) (by assumption) ?_
        · intro w' hSw
          go_simp
        show wpAnyH _ _ _ _ _ _ _ (Act.put _ (some 22) _) _
        simp only [Act.put, List.setIfInBounds_toArray, List.set_cons_zero, List.set_cons_succ]
        refine wpAnyH_take (i := 6) (v := .pointer (some ⟨bb, bo + k * 28, none⟩)) rfl (by kernel_rfl) (by kernel_rfl) (by kernel_rfl) (fun _ _ _ h => h) (Or.inl ⟨by rfl, ?_⟩) (by assumption) ?_
        · intro w' hSw
          go_simp
        show wpAnyH _ _ _ _ _ _ _ (Act.put _ (some 23) _) _
        simp only [Act.put, List.setIfInBounds_toArray, List.set_cons_zero, List.set_cons_succ]
        refine wpAnyH_take (i := 7) (v := .agg Y.toArray) rfl (by kernel_rfl) (by kernel_rfl) (by kernel_rfl) (fun _ _ _ h => h) (yieldsIf_load_mid (by rfl) 35 (.tmp 23) rfl bb (bo + k * 28) rfl Y _ (fun w' hSw => HRX.out.2 w' hSw) Tryz.underlying35 rfl HSX.out.2) (by assumption) ?_
        show wpAnyH _ _ _ _ _ _ _ (Act.put _ (some 24) _) _
        simp only [Act.put, List.setIfInBounds_toArray, List.set_cons_zero, List.set_cons_succ]
        refine wpAnyH_ready (rs := [8]) (by kernel_rfl) (by simp) ?_
        refine AllReadyH.cons rfl (fun K hK => ?_) AllReadyH.nil
        go_simp
        refine (HON.out _ HHD.out).mono ?_
        rintro e V1 ⟨rfl, hv1⟩
        rw [tb_true HXY.out]
        go_simp
        have hV1 := HHD.out.trans (hv1.mono HHD.out.size)
        clear hv1
        refine hK.out _ _ hV1 (fun hHeld => ?_)
        clear hK K
        refine wpAnyH_take (i := 9) (v := .bool false) rfl (by kernel_rfl) (by kernel_rfl) (by kernel_rfl) (fun _ _ _ h => h) (Or.inl ⟨by rfl, ?_⟩) (by assumption) ?_
        · intro w' hSw
          go_simp
        show wpAnyH _ _ _ _ _ _ _ (Act.put _ (some 26) _) _
        simp only [Act.put, List.setIfInBounds_toArray, List.set_cons_zero, List.set_cons_succ]
        refine wpAnyH_done (by kernel_rfl) ?_ _
        have HV1 := Lib.hid (HR.out.2.trans (hV1.mono HR.out.2.size))
        clear hV1 hHeld
        go_wp2_with fail
        go_roundw
        case rel => exact ⟨k + 1, by omega, by go_num, HSN.out.2 HXY.out, HV1.out⟩
        case measure => simp [intOf]; omega
      · have HXY := Lib.hid hxy
        clear hxy
        refine wp_region_held_drew (S := fun W' => Below wr.heap.size wr W') (by kernel_rfl) HHD.out (fun hHeld => ?_)
        refine wpAnyH_take (i := 0) (v := .slice (some ⟨ab, ao, none⟩) n c) rfl (by kernel_rfl) (by kernel_rfl) (by kernel_rfl) (fun _ _ _ h => h) (Or.inl ⟨by rfl, ?_⟩) (by assumption) ?_
        · intro w' hSw
          go_simp
        show wpAnyH _ _ _ _ _ _ _ (Act.put _ (some 17) _) _
        simp only [Act.put, List.setIfInBounds_toArray, List.set_cons_zero, List.set_cons_succ]
        refine wpAnyH_take (i := 1) (v := .int .i64 k) rfl (by kernel_rfl) (by kernel_rfl) (by kernel_rfl) (fun _ _ _ h => h) (Or.inl ⟨by rfl, ?_⟩) (by assumption) ?_
        · intro w' hSw
          go_simp
        show wpAnyH _ _ _ _ _ _ _ (Act.put _ (some 18) _) _
        simp only [Act.put, List.setIfInBounds_toArray, List.set_cons_zero, List.set_cons_succ]
        refine wpAnyH_take (i := 2) (v := .pointer (some ⟨ab, ao + k * 28, none⟩)) rfl (by kernel_rfl) (by kernel_rfl) (by kernel_rfl) (fun _ _ _ h => h) (Or.inl ⟨by rfl, ?_⟩) (by assumption) ?_
        · intro w' hSw
          go_simp
        show wpAnyH _ _ _ _ _ _ _ (Act.put _ (some 19) _) _
        simp only [Act.put, List.setIfInBounds_toArray, List.set_cons_zero, List.set_cons_succ]
        refine wpAnyH_take (i := 3) (v := .agg X.toArray) rfl (by kernel_rfl) (by kernel_rfl) (by kernel_rfl) (fun _ _ _ h => h) (yieldsIf_load_mid (by rfl) 35 (.tmp 19) rfl ab (ao + k * 28) rfl X _ (fun w' hSw => HRX.out.1 w' hSw) Tryz.underlying35 rfl HSX.out.1) (by assumption) ?_
        show wpAnyH _ _ _ _ _ _ _ (Act.put _ (some 20) _) _
        simp only [Act.put, List.setIfInBounds_toArray, List.set_cons_zero, List.set_cons_succ]
        refine wpAnyH_take (i := 4) (v := .slice (some ⟨bb, bo, none⟩) n d) rfl (by kernel_rfl) (by kernel_rfl) (by kernel_rfl) (fun _ _ _ h => h) (Or.inl ⟨by rfl, ?_⟩) (by assumption) ?_
        · intro w' hSw
          go_simp
        show wpAnyH _ _ _ _ _ _ _ (Act.put _ (some 21) _) _
        simp only [Act.put, List.setIfInBounds_toArray, List.set_cons_zero, List.set_cons_succ]
        refine wpAnyH_take (i := 5) (v := .int .i64 k) rfl (by kernel_rfl) (by kernel_rfl) (by kernel_rfl) (fun _ _ _ h => h) (Or.inl ⟨by rfl, ?_⟩) (by assumption) ?_
        · intro w' hSw
          go_simp
        show wpAnyH _ _ _ _ _ _ _ (Act.put _ (some 22) _) _
        simp only [Act.put, List.setIfInBounds_toArray, List.set_cons_zero, List.set_cons_succ]
        refine wpAnyH_take (i := 6) (v := .pointer (some ⟨bb, bo + k * 28, none⟩)) rfl (by kernel_rfl) (by kernel_rfl) (by kernel_rfl) (fun _ _ _ h => h) (Or.inl ⟨by rfl, ?_⟩) (by assumption) ?_
        · intro w' hSw
          go_simp
        show wpAnyH _ _ _ _ _ _ _ (Act.put _ (some 23) _) _
        simp only [Act.put, List.setIfInBounds_toArray, List.set_cons_zero, List.set_cons_succ]
        refine wpAnyH_take (i := 7) (v := .agg Y.toArray) rfl (by kernel_rfl) (by kernel_rfl) (by kernel_rfl) (fun _ _ _ h => h) (yieldsIf_load_mid (by rfl) 35 (.tmp 23) rfl bb (bo + k * 28) rfl Y _ (fun w' hSw => HRX.out.2 w' hSw) Tryz.underlying35 rfl HSX.out.2) (by assumption) ?_
        show wpAnyH _ _ _ _ _ _ _ (Act.put _ (some 24) _) _
        simp only [Act.put, List.setIfInBounds_toArray, List.set_cons_zero, List.set_cons_succ]
        refine wpAnyH_ready (rs := [8]) (by kernel_rfl) (by simp) ?_
        refine AllReadyH.cons rfl (fun K hK => ?_) AllReadyH.nil
        go_simp
        refine (HON.out _ HHD.out).mono ?_
        rintro e V1 ⟨rfl, hv1⟩
        rw [tb_false HXY.out]
        go_simp
        have hV1 := HHD.out.trans (hv1.mono HHD.out.size)
        clear hv1
        refine hK.out _ _ hV1 (fun hHeld => ?_)
        clear hK K
        refine wpAnyH_take (i := 9) (v := .bool true) rfl (by kernel_rfl) (by kernel_rfl) (by kernel_rfl) (fun _ _ _ h => h) (Or.inl ⟨by rfl, ?_⟩) (by assumption) ?_
        · intro w' hSw
          go_simp
        show wpAnyH _ _ _ _ _ _ _ (Act.put _ (some 26) _) _
        simp only [Act.put, List.setIfInBounds_toArray, List.set_cons_zero, List.set_cons_succ]
        refine wpAnyH_done (by kernel_rfl) ?_ _
        have HV1 := Lib.hid (HR.out.2.trans (hV1.mono HR.out.2.size))
        clear hV1 hHeld
        go_wp2_with fail
        go_ret
        exact ⟨ret_no (fun q => HXY.out (HSN.out.1 (by rw [q]))), HV1.out⟩
    · obtain rfl : k = n := by omega
      have HE : Hid (us.map EvM.con = vs.map EvM.con) := Lib.hid (by
        have h := HR.out.1
        rwa [List.take_of_length_le (by rw [List.length_map]; have := HN.out.1; omega), List.take_of_length_le (by rw [List.length_map]; have := HN.out.2; omega)] at h)
      go_wp2_with fail
      go_ret
      exact ⟨ret_yes HE.out, HR.out.2⟩
end
section
open Go.RowKit Go.Maps
open Go.Lib (itoa)

def wakeA : EvM := ⟨3, 9, 1, 7, 2, 0, 0, 0, none, 0, [], ord0, sta0, kindM 0, none, 0, []⟩
def wakeS : Wd := [57, 32, 111, 119, 110, 101, 114, 32, 55, 32, 49, 32, 50]
theorem wakeA_text : evT wakeA.con = wakeS := by decide +kernel
theorem wakeA_ok : EvOk wakeA.con := ⟨by decide, by decide, (fun h => absurd h (by decide)), rfl⟩
def wakeB : EvC := { ev0 with kind := 7, tick := 9, n := 4, eterm := 2, ekind := 2, ebody := [30, 18] }
def wakeT : Wd := [57, 32, 97, 112, 112, 108, 105, 101, 100, 32, 48, 32, 52, 32, 50, 32, 50, 32, 61, 49, 101, 49, 50]
theorem wakeB_text : evT wakeB = wakeT := by decide +kernel
theorem wakeB_ok : EvOk wakeB := ⟨by decide, by decide, (fun h => absurd h (by decide)), rfl⟩
theorem wakeB_v : VEv wakeB := by
  refine ⟨⟨by decide, by decide, rfl⟩, fun f hf => ?_⟩
  have hf : f ∈ [0, 3, 5] := hf
  simp only [List.mem_cons, List.mem_nil_iff, or_false] at hf
  rcases hf with rfl | rfl | rfl
  · show Is64 0; decide
  · show Is64 4; decide
  · show Is64 2 ∧ Is64 2; decide
theorem wakeA_r : EvR wakeA.con :=
  ⟨by decide, by decide, by decide, by decide, by decide, by decide, by decide, by decide, by decide, by decide, by decide, (bd_kind (k := 0) is64_0).r⟩
set_option maxRecDepth 100000 in
set_option maxHeartbeats 8000000 in
theorem wakes_any (w : World) (hr : Ready w) : Calls Tryz.prog 8 #[] w fun e w' => e = .returned (.bool true) ∧ Below w.heap.size w w' := by
  obtain ⟨C, hC⟩ : ∃ C, C = (evCs wakeA).toArray := ⟨_, rfl⟩
  have hv : evV wakeA = .agg C := by rw [hC]; rfl
  have hbt : Tryz.prog.built 35 [(0, .int .i64 3), (1, .int .i64 9), (3, .int .i64 7), (2, .int .i64 1), (4, .int .i64 2)] = some C := by rw [hC]; rfl
  have HF := Lib.hid (fmtEv_any wakeA w hr ⟨Sl.empty, ⟨SrcsAt.empty, Sl.empty⟩, Sl.empty⟩ ⟨by decide, (fun s hs => by cases hs), by decide⟩ wakeA_r (by decide) (by decide))
  rw [hv] at HF
  have HR := Lib.hid hr
  clear hC hv hr
  go_enter Tryz.func8, Tryz.ntmps8
  go_wp2_with (refine wpList_build_to rfl 35 #[(0, .const (.int .i64 3)), (1, .const (.int .i64 9)), (3, .const (.int .i64 7)), (2, .const (.int .i64 1)), (4, .const (.int .i64 2))] rfl C (by rw [Array.toList_map]; exact hbt) ?_)
  refine HF.out.mono ?_
  rintro e W1 ⟨hf, hb1⟩
  have he : e = .returned (.tuple #[.string ⟨#[57, 32, 111, 119, 110, 101, 114, 32, 55, 32, 49, 32, 50]⟩, .int .i64 0]) := by
    show e = .returned (.tuple #[.string (bs wakeS), .int .i64 0])
    rcases hf with ⟨_, _, h⟩ | ⟨_, h, _⟩ | ⟨h, _⟩
    · rw [h, wakeA_text]
    · rw [wakeA_text] at h
      exact absurd h (by decide)
    · exact absurd wakeA_ok h
  subst he
  have HP := Lib.hid (parseEv_any wakeT W1 (HR.out.below hb1))
  have HB1 := Lib.hid hb1
  clear hf hb1 hbt
  go_wp2_with fail
  refine HP.out.mono ?_
  rintro e W2 (⟨a, _, hva, hta, _, he, ho, _, hb2⟩ | ⟨hno, _⟩)
  rotate_left
  · rcases hno with h | h
    · exact absurd h (by decide)
    · exact absurd wakeB_text.symm (h wakeB wakeB_v wakeB_ok)
  have hab : a.con = wakeB := evT_inj hva wakeB_v (hta.symm.trans wakeB_text.symm)
  obtain ⟨D, hD⟩ : ∃ D, D = (evCs a).toArray := ⟨_, rfl⟩
  have hvd : evV a = .agg D := by rw [hD]; rfl
  rw [hvd] at he
  subst he
  have hb5 := below_new W2 (.cells D 35)
  have hn : a.n = 4 := congrArg EvC.n hab
  have ht : a.eterm = 2 := congrArg EvC.eterm hab
  have hbd : a.ebody = [30, 18] := congrArg EvC.ebody hab
  have c5 : D[5]? = some (.int .i64 4) := by rw [hD, ← hn]; rfl
  have c6 : D[6]? = some (.int .i64 2) := by rw [hD, ← ht]; rfl
  have c8 : D[8]? = some (.slice a.eA 2 a.ec) := by
    have h : D[8]? = some (.slice a.eA a.ebody.length a.ec) := by rw [hD]; rfl
    rwa [hbd] at h
  have hszd : (Tryz.prog.info? 35).map (·.size) = some D.size := by rw [hD]; exact ev_size
  have honed : D.all (·.oneCell') = true := by rw [hD]; exact evCs_one a
  have hat := ((ho.next hb5).at).body
  rw [hbd] at hat
  have hcv : (convert 23 9 (.slice a.eA 2 a.ec)).run Tryz.prog (W2.alloc (.cells D 35)) = .ok (.string ⟨#[30, 18]⟩) (W2.alloc (.cells D 35)) := bytes_str hat a.ec
  have HB5 := Lib.hid (show Below w.heap.size w (W2.alloc (.cells D 35)) from HB1.out.trans ((hb2.trans (hb5.mono hb2.size)).mono HB1.out.size))
  have hoy := new_obj W2 (.cells #[.int .i64 0, .int .i64 0, .int .i64 0, .int .i64 0, .int .i64 0, .int .i64 0, .int .i64 0, .int .i64 0, .slice none 0 0, .int .i64 0, .int .i64 0, .int .i64 0, .int .i64 0, .int .i64 0, .int .i64 0, .int .i64 0, .int .i64 0, .int .i64 0, .int .i64 0, .int .i64 0, .int .i64 0, .int .i64 0, .int .i64 0, .int .i64 0, .int .i64 0, .slice none 0 0, .slice none 0 0, .slice none 0 0] 35)
  have hold : (#[.int .i64 0, .int .i64 0, .int .i64 0, .int .i64 0, .int .i64 0, .int .i64 0, .int .i64 0, .int .i64 0, .slice none 0 0, .int .i64 0, .int .i64 0, .int .i64 0, .int .i64 0, .int .i64 0, .int .i64 0, .int .i64 0, .int .i64 0, .int .i64 0, .int .i64 0, .int .i64 0, .int .i64 0, .int .i64 0, .int .i64 0, .int .i64 0, .int .i64 0, .slice none 0 0, .slice none 0 0, .slice none 0 0] : Array Value).size = D.size := by rw [hD]; rfl
  have hwz := World.setRow_alloc_new W2 #[.int .i64 0, .int .i64 0, .int .i64 0, .int .i64 0, .int .i64 0, .int .i64 0, .int .i64 0, .int .i64 0, .slice none 0 0, .int .i64 0, .int .i64 0, .int .i64 0, .int .i64 0, .int .i64 0, .int .i64 0, .int .i64 0, .int .i64 0, .int .i64 0, .int .i64 0, .int .i64 0, .int .i64 0, .int .i64 0, .int .i64 0, .int .i64 0, .int .i64 0, .slice none 0 0, .slice none 0 0, .slice none 0 0] D 35
  have HD := Lib.hid (And.intro hszd (And.intro honed (And.intro hold hwz)))
  clear hD hvd hab hn ht hbd hva hta ho hb2 hb5 hat hszd honed hold hwz
  go_wp2_with (refine wpList_store_row rfl 35 (.tmp 3) (.tmp 12) rfl W2.heap.size D rfl rfl 35 _ hoy HD.out.1 HD.out.2.2.1 HD.out.2.1 ?_; rw [HD.out.2.2.2])
  go_ret
  exact ⟨rfl, HB5.out⟩
end
section
open Go.RowKit Go.Maps

/-- what is known of a trace that was read. -/
def ReadS (s : Wd) (l : List EvM) (n z : Int) : Prop := (z = 0 ∧ n = 0 ∧ ParT s (l.map EvM.con) true) ∨ (z = 2 ∧ l = [] ∧ ∃ k : List EvC, n = (k.length : Int) + 1 ∧ ParT s k false)
theorem EvsAt.nil (w : World) (B : Nat) (A : Option Addr) : EvsAt w B A [] := ⟨Sl.empty, fun e he => by cases he⟩
theorem retPs_uni {s : Wd} {w : World} {e : Ending} {w' : World} (h : RetPs s w e w') : ∃ (l : List EvM) (A : Option Addr) (c : Nat) (n z : Int), e = .returned (.tuple #[.slice A l.length c, .int .i64 n, .int .i64 z]) ∧ EvsAt w' w'.heap.size A l ∧ (A = none → c = 0) ∧ (∀ x ∈ l, EvBd x) ∧ l.length ≤ s.length ∧ Below w.heap.size w w' ∧ ReadS s l n z := by
  obtain ⟨l, ok, h1, h2, h3, h4⟩ := h
  cases ok with
  | true =>
    obtain ⟨A, c, e1, h5⟩ := h4
    obtain ⟨A', c', e2, h6⟩ := h5.sl
    injection e2 with e2 e3 e4
    subst e2 e4
    refine ⟨l, A, c, 0, 0, e1, h6, ?_, h2, ?_, h3, .inl ⟨rfl, rfl, h1⟩⟩
    · rintro rfl
      rcases h5.row.2 with ⟨e5, _⟩ | ⟨_, _, _, e5, _⟩
      · injection e5 with _ _ e5
      · injection e5 with e5 _ _
        cases e5
    · obtain ⟨_, t, e5, _⟩ := h1
      have h7 := joinE_count (l.map EvM.con)
      have h8 := congrArg List.length e5
      rw [List.length_append] at h8
      rw [List.length_map] at h7
      omega
  | false =>
    refine ⟨[], none, 0, (l.length : Int) + 1, 2, h4, EvsAt.nil _ _ _, (fun _ => rfl), (fun x hx => by cases hx), Nat.zero_le _, h3, .inr ⟨rfl, rfl, l.map EvM.con, by rw [List.length_map], h1⟩⟩
theorem ReadS.same {s : Wd} {l m : List EvM} {n k z y : Int} (h : ReadS s l n z) (h' : ReadS s m k y) : k = n ∧ y = z ∧ l.map EvM.con = m.map EvM.con := by
  rcases h with ⟨h1, h2, h3⟩ | ⟨h1, h2, p, h3, h4⟩
  · rcases h' with ⟨k1, k2, k3⟩ | ⟨k1, k2, q, k3, k4⟩
    · exact ⟨by omega, by omega, (parT_one h3 k3).1⟩
    · have := (parT_one h3 k4).2
      cases this
  · rcases h' with ⟨k1, k2, k3⟩ | ⟨k1, k2, q, k3, k4⟩
    · have := (parT_one h4 k3).2
      cases this
    · have := (parT_one h4 k4).1
      subst this
      exact ⟨by omega, by omega, by rw [h2, k2]⟩
theorem ReadS.z {s : Wd} {l : List EvM} {n z : Int} (h : ReadS s l n z) : (z = 0 ∧ n = 0 ∧ ParT s (l.map EvM.con) true) ∨ z = 2 := by
  rcases h with h | ⟨h, _⟩
  · exact .inl h
  · exact .inr h
set_option maxRecDepth 100000 in
set_option maxHeartbeats 16000000 in
theorem trParsing_any (w : World) (hr : Ready w) (l1 l2 : Wd) : Calls Tryz.prog 6 #[.string (bs l1), .string (bs l2)] w fun e w' => e = .returned (.bool true) ∧ Below w.heap.size w w' := by
  have HRD := Lib.hid (show ∀ X : World, Below w.heap.size w X → Ready X from fun X h => hr.below h)
  have HWK := Lib.hid (wakes_any w hr)
  have hl1 : (bs l1).size = l1.length := bs_size l1
  have hl2 : (bs l2).size = l2.length := bs_size l2
  have HAD := Lib.hid (bs_append l1 l2)
  obtain ⟨S, hS⟩ : ∃ s, s = bs l1 := ⟨_, rfl⟩
  obtain ⟨T2, hT2⟩ : ∃ s, s = bs l2 := ⟨_, rfl⟩
  have HS := Lib.hid hS
  have HT := Lib.hid hT2
  rw [← hS] at hl1 HAD
  rw [← hT2] at hl2 HAD
  have HLS := Lib.hid (And.intro hl1 hl2)
  rw [← hS, ← hT2]
  clear hr hS hT2 hl1 hl2
  go_enter Tryz.func6, Tryz.ntmps6
  go_wp2_with fail
  refine HWK.out.mono ?_
  rintro e X1 ⟨rfl, hb⟩
  have HX1 := Lib.hid hb
  clear hb HWK
  by_cases hlong : 1500 < S.size
  · have d1 : decide ((1500 : Int) < (S.size : Int)) = true := decide_eq_true (by omega)
    clear hlong
    go_wp2_with fail
    go_ret
    exact ⟨rfl, HX1.out⟩
  have d1 : decide ((1500 : Int) < (S.size : Int)) = false := decide_eq_false (by omega)
  by_cases hlong2 : 1500 < T2.size
  · have d2 : decide ((1500 : Int) < (T2.size : Int)) = true := decide_eq_true (by omega)
    clear hlong hlong2
    go_wp2_with fail
    go_ret
    exact ⟨rfl, HX1.out⟩
  have d2 : decide ((1500 : Int) < (T2.size : Int)) = false := decide_eq_false (by omega)
  have HLL := Lib.hid (show l1.length ≤ 1500 ∧ l2.length ≤ 1500 by have := HLS.out; omega)
  have HSZ := Lib.hid (show S.size ≤ 65536 by omega)
  clear hlong hlong2
  have HP := Lib.hid (parse_any l1 (by have := HLL.out; omega) X1 (HRD.out X1 HX1.out))
  rw [← HS.out] at HP
  go_wp2_with fail
  refine HP.out.mono ?_
  rintro e X2 hret
  obtain ⟨us, A, c, n1, z1, rfl, hat, hnc, hbd, hll, hb, hrd⟩ := retPs_uni hret
  have HX2 := Lib.hid (HX1.out.trans (hb.mono HX1.out.size))
  have HU := Lib.hid (And.intro hat (And.intro hnc (And.intro hbd (And.intro (show us.length ≤ 1500 by have := HLL.out; omega) hrd))))
  have HSP := Lib.hid (split51_any S HSZ.out X2)
  rw [HS.out, bs_data, ← HS.out] at HSP
  clear hret hat hnc hbd hll hb hrd HP
  obtain ⟨n, hnn⟩ : ∃ n, n = us.length := ⟨_, rfl⟩
  have HN := Lib.hid hnn
  rw [← hnn]
  clear hnn
  go_wp2_with fail
  refine HSP.out.mono ?_
  rintro e X3 hret
  obtain ⟨vs, B, d, n2, z2, rfl, hat, hnc, hbd, hll, hb, hrd⟩ := retPs_uni hret
  have HX3 := Lib.hid (HX2.out.trans (hb.mono HX2.out.size))
  obtain ⟨e1, e2, hcon⟩ := HU.out.2.2.2.2.same hrd
  subst e1 e2
  have HU3 := Lib.hid (show EvsAt X3 X3.heap.size A us from (HU.out.1.below hb).more hb.size)
  have HSM := Lib.hid (same51_any X3 A B c d us vs X3.heap.size X3.heap.size HU3.out hat (Nat.le_refl _) (Nat.le_refl _) (fun e he => (HU.out.2.2.1 e he).act.l) (by have := HU.out.2.2.2.1; omega))
  rw [tb_true hcon, ← HN.out] at HSM
  obtain ⟨m, hm⟩ : ∃ m, m = vs.length := ⟨_, rfl⟩
  rw [← hm] at HSM ⊢
  clear hret hat hnc hbd hll hb hrd hcon hm HSP
  go_wp2_with fail
  refine HSM.out.mono ?_
  rintro e X4 ⟨rfl, hb⟩
  have HX4 := Lib.hid (HX3.out.trans (hb.mono HX3.out.size))
  have HU4 := Lib.hid (show EvsAt X4 X4.heap.size A us from (HU3.out.below hb).more hb.size)
  have HP := Lib.hid (parse_any l2 (by have := HLL.out; omega) X4 (HRD.out X4 HX4.out))
  rw [← HT.out] at HP
  clear hb HSM
  go_wp2_with fail
  refine HP.out.mono ?_
  rintro e X5 hret
  obtain ⟨ts, E, f, n3, z3, rfl, hat, hnc, hbd, hll, hb, hrd⟩ := retPs_uni hret
  have HX5 := Lib.hid (HX4.out.trans (hb.mono HX4.out.size))
  have HU5 := Lib.hid (show EvsAt X5 X5.heap.size A us from (HU4.out.below hb).more hb.size)
  have HT5 := Lib.hid (And.intro hat (And.intro hnc (And.intro hbd (And.intro (show ts.length ≤ 1500 by have := HLL.out; omega) hrd))))
  obtain ⟨q, hq⟩ : ∃ q, q = ts.length := ⟨_, rfl⟩
  have HQ := Lib.hid hq
  rw [← hq]
  clear hret hat hnc hbd hll hb hrd hq HP
  rcases HU.out.2.2.2.2.z with ⟨hz, hn, hp1⟩ | hz
  rotate_left
  · subst hz
    go_wp2_with fail
    go_ret
    exact ⟨rfl, HX5.out⟩
  subst hz
  rcases HT5.out.2.2.2.2.z with ⟨hz, hn3, hp2⟩ | hz
  rotate_left
  · subst hz
    clear hp1 hn
    go_wp2_with fail
    go_ret
    exact ⟨rfl, HX5.out⟩
  subst hz
  have HPT := Lib.hid (parT_app hp1 hp2)
  clear hp1 hp2 hn hn3
  have HP := Lib.hid (parse_any (l1 ++ l2) (by rw [List.length_append]; have := HLL.out; omega) X5 (HRD.out X5 HX5.out))
  rw [← HAD.out] at HP
  have k1 : S.size ≤ 1500 := by have := HLS.out; have := HLL.out; omega
  have k2 : T2.size ≤ 1500 := by have := HLS.out; have := HLL.out; omega
  go_wp2_with fail
  refine HP.out.mono ?_
  rintro e X6 ⟨cs, ok, hp, hbd, hb, hres⟩
  obtain ⟨hcon, hok⟩ := parT_one hp HPT.out
  subst hok
  obtain ⟨G, g, rfl, hown⟩ := hres
  have HX6 := Lib.hid (HX5.out.trans (hb.mono HX5.out.size))
  have HU6 := Lib.hid (show EvsAt X6 X6.heap.size A us from (HU5.out.below hb).more hb.size)
  have HT6 := Lib.hid (show EvsAt X6 X6.heap.size E ts from (HT5.out.1.below hb).more hb.size)
  have hevs : EvsAt X6 X6.heap.size G cs := by
    obtain ⟨A2, c2, e2, h2⟩ := hown.sl
    injection e2 with e2 _ _
    subst e2
    exact h2
  have HC6 := Lib.hid (And.intro hevs (And.intro hbd hcon))
  obtain ⟨p, hpp⟩ : ∃ p, p = cs.length := ⟨_, rfl⟩
  have HPP := Lib.hid hpp
  rw [← hpp]
  clear hp hbd hb hcon hown hevs hpp HP
  have hown0 : OwnR evCs 28 (X6.alloc (.cells #[] 35)) X6.heap.size 35 (.slice (some ⟨X6.heap.size, 0, none⟩) 0 0) ([] : List EvM) := OwnR.lit X6 evCs_len X6.heap.size 35 [] rfl (Nat.le_refl _) (by simp) _ rfl
  have HZ := Lib.hid (below_new X6 (.cells #[] 35))
  have hs1 : RecsAt evCs (X6.alloc (.cells #[] 35)) X6.heap.size A us := RecsAt.below HU6.out.row HZ.out
  have hz6 : X6.heap.size ≤ (X6.alloc (.cells #[] 35)).heap.size := by simp
  have hn1 : 0 + us.length ≤ 274877906944 := by have := HU.out.2.2.2.1; omega
  have hn2 : ([] ++ us).length + ts.length ≤ 274877906944 := by have := HU.out.2.2.2.1; have := HT5.out.2.2.2.1; simp; omega
  rw [HN.out, HQ.out]
  go_wp2_with (first | ((with_reducible refine wpList_at 83 rfl ?_); (at_builtin; refine wpList_append_recs (cs := evCs) (s := 28) _ rfl evCs_len _ _ 44 rfl 35 Tryz.underlying44 ev_info rfl (by decide) (by decide) X6.heap.size _ [] rfl hown0 _ A us.length c us rfl rfl HU.out.2.1 hs1 (fun y _ u hu => by have := evCs_one y; exact List.all_eq_true.1 (by simpa using this) u hu) (by simpa using hn1) hz6 ?_; intro v7 w7 hown7 hg7); have HG7 := Lib.hid (HZ.out.grown hg7 hz6 (fun j e => OwnR.ge_base hown0 j e)); have HO7 := Lib.hid hown7; have hz7 := HG7.out.size; have hs2 := RecsAt.below HT6.out.row HG7.out) | ((with_reducible refine wpList_at 85 rfl ?_); (at_builtin; refine wpList_append_recs (cs := evCs) (s := 28) _ rfl evCs_len _ _ 44 rfl 35 Tryz.underlying44 ev_info rfl (by decide) (by decide) X6.heap.size _ ([] ++ us) rfl hown7 _ E ts.length f ts rfl rfl HT5.out.2.1 hs2 (fun y _ u hu => by have := evCs_one y; exact List.all_eq_true.1 (by simpa using this) u hu) (by exact hn2) hz7 ?_; intro v8 w8 hown8 hg8)))
  have HG8 := Lib.hid (HG7.out.grown hg8 hz7 (fun j e => OwnR.ge_base HO7.out j e))
  obtain ⟨J, j, rfl, hj⟩ := OwnR.sl hown8
  have HJ := Lib.hid (show EvsAt w8 w8.heap.size J ([] ++ us ++ ts) from ⟨hj, fun e he => by
    rcases List.mem_append.1 he with h | h
    · exact ((HU6.out.evs e (by simpa using h)).below HG8.out).more HG8.out.size
    · exact ((HT6.out.evs e h).below HG8.out).more HG8.out.size⟩)
  have HSM := Lib.hid (same51_any w8 G J g j cs ([] ++ us ++ ts) w8.heap.size w8.heap.size ((HC6.out.1.below HG8.out).more HG8.out.size) HJ.out (Nat.le_refl _) (Nat.le_refl _) (fun e he => (HC6.out.2.1 e he).act.l) (by
    have h := congrArg List.length HC6.out.2.2
    rw [List.length_map, List.length_append, List.length_map, List.length_map] at h
    have := HU.out.2.2.2.1
    have := HT5.out.2.2.2.1
    omega))
  have hfin : cs.map EvM.con = ([] ++ us ++ ts).map EvM.con := by
    rw [HC6.out.2.2]
    simp
  rw [tb_true hfin, ← HPP.out] at HSM
  clear hfin
  clear hown7 hs2 hz7 hn2 hg8 hown8 hj hown0 hs1 hz6 hn1 hg7
  obtain ⟨k, hk⟩ : ∃ k, k = ([] ++ us ++ ts).length := ⟨_, rfl⟩
  rw [← hk] at HSM ⊢
  clear hk
  go_wp2_with fail
  refine HSM.out.mono ?_
  rintro e X9 ⟨rfl, hb⟩
  have HX9 := Lib.hid (HX6.out.trans ((HG8.out.trans (hb.mono HG8.out.size)).mono HX6.out.size))
  clear hb HSM
  go_wp2_with fail
  go_ret
  exact ⟨rfl, HX9.out⟩
end
end Go.Proofs.YtakdkiggaalimaaGreatDoor
