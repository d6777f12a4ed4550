/-
  trace.reader: event (printed by gentrre.py).
-/
import Derived.Test.YtakdkiggaalimaaGreatDoorTrRa
import Derived.Test.YtakdkiggaalimaaGreatDoorTrRb
import Derived.Test.YtakdkiggaalimaaGreatDoorTrFs
import Derived.Deep.WholeRow
namespace Go.Proofs.YtakdkiggaalimaaGreatDoor
open Go.RowKit Go.Maps
open Go.Lib (itoa)

/-- an event under way. -/
structure EvO (Y : World) (base : Nat) (x : EvM) : Prop where
  act : ActO Y base x.act
  body : OwnV byteV Y base 5 (.slice x.eA x.ebody.length x.ec) x.ebody
  nob : x.bA = none ∧ x.bytes = [] ∧ x.bc = 0
structure EvBd (x : EvM) : Prop where
  kind : Is64 x.kind
  tick : Is64 x.tick
  who : Is64 x.who
  call : Is64 x.call
  epoch : Is64 x.epoch
  n : Is64 x.n
  eterm : Is64 x.eterm
  ekind : Is64 x.ekind
  body : x.ebody.length ≤ 1000000
  ord : VO x.ord
  sta : VSt x.sta
  act : ActBd x.act
theorem EvO.only {rb : Nat} {Y Z : World} {base : Nat} {x : EvM} (h : EvO Y base x) (ho : OnlyR rb Y Z) (hb : rb < base) : EvO Z base x := ⟨h.act.only ho hb, own_only ho h.body hb, h.nob⟩
theorem EvO.blk {Y : World} {base : Nat} {x : EvM} (h : EvO Y base x) {b : Nat} {T : TypeId} {cs : List Value} (hb : Blk Y b T cs) (hT : T ≠ 3 ∧ T ≠ 80 ∧ T ≠ 5) (j : Nat) (u : Value) : EvO (Y.setCell ⟨b, j, none⟩ u) base x :=
  ⟨h.act.blk hb ⟨hT.1, hT.2.1⟩ j u, own_blk h.body hb hT.2.2 j u, h.nob⟩
theorem Blk.puts {b : Nat} {T : TypeId} : ∀ (l : List (Nat × Value)) {X : World} {cs : List Value}, Blk X b T cs → Blk (putCells X b l) b T (l.foldl (fun c p => c.set p.1 p.2) cs)
  | [], _, _, h => h
  | p :: r, _, _, h => Blk.puts r (h.set p.1 p.2)
theorem ActO.puts {base b : Nat} {a : ActM} {T : TypeId} (hT : T ≠ 3 ∧ T ≠ 80) : ∀ (l : List (Nat × Value)) {Y : World} {cs : List Value}, ActO Y base a → Blk Y b T cs → ActO (putCells Y b l) base a
  | [], _, _, h, _ => h
  | p :: r, _, _, h, hb => ActO.puts hT r (h.blk hb hT p.1 p.2) (hb.set p.1 p.2)
theorem own_puts {base b : Nat} {e T : TypeId} {s n : Nat} {v : Value} {xs : List Value} (hT : T ≠ e) : ∀ (l : List (Nat × Value)) {Y : World} {cs : List Value}, Y.ownsRow base e s v n xs → Blk Y b T cs → (putCells Y b l).ownsRow base e s v n xs
  | [], _, _, h, _ => h
  | p :: r, _, _, h, hb => own_puts hT r (own_blk h hb hT p.1 p.2) (hb.set p.1 p.2)
theorem RdAt.puts {rb b : Nat} {st : Option (List Wd)} (hb : rb < b) : ∀ (l : List (Nat × Value)) {Y : World}, RdAt rb st Y → RdAt rb st (putCells Y b l)
  | [], _, h => h
  | p :: r, _, h => RdAt.puts hb r (h.set hb p.1 p.2)
theorem only_puts {rb b : Nat} {X : World} (hb : X.heap.size ≤ b) : ∀ (l : List (Nat × Value)) {Y : World}, OnlyR rb X Y → OnlyR rb X (putCells Y b l)
  | [], _, h => h
  | p :: r, _, h => only_puts hb r (only_set h hb p.1 p.2)
theorem Blk.putsOther {b g : Nat} {T : TypeId} {cs : List Value} (hg : b ≠ g) : ∀ (l : List (Nat × Value)) {Y : World}, Blk Y b T cs → Blk (putCells Y g l) b T cs
  | [], _, h => h
  | p :: r, _, h => Blk.putsOther hg r (h.other hg p.1 p.2)
theorem only_row2 (W : World) (g : Nat) (cs : Array Value) : Only (fun b => b = g) W (W.setRow g cs) := ⟨rfl, rfl, rfl, by simp, fun k _ hn => setRow_other W g k cs hn⟩
theorem results_cell1 {P : Program} {fn : Func} {p : Tmp} {ty : TypeId} (h : fn.results = #[.cell p ty]) (tmps : Array Value) (w : World) (g : Nat) (t : TypeId) (cs : Array Value) (fr : Nat × Nat) (d : TypeDesc)
    (hp : tmps.getD p undef = .pointer (some ⟨g, 0, none⟩)) (hg : w.heap[g]? = some (.cells cs t fr)) (hu : P.underlying ty = some d) (hd : (match d with | .struct _ | .array _ _ => true | _ => false) = true) (hi : (P.info? ty).map (·.size) = some cs.size) :
    (results fn tmps).run P w = .ok (.agg cs) w := by
  have hp' : tmps[p]?.getD undef = .pointer (some ⟨g, 0, none⟩) := by simpa using hp
  simp [results, h, hp', asAddr, run_loadVar_row w g t ty cs fr d hg hu hd hi]
theorem RdAt.keep {rb g : Nat} {st : Option (List Wd)} {Y Z : World} (h : RdAt rb st Y) (hb : rb < g) (ho : Only (fun b => b = g) Y Z) : RdAt rb st Z := by
  have hl := h.lt
  obtain ⟨A, ws, c, bad, h1, h2, h3⟩ := h
  exact ⟨A, ws, c, bad, (ho.block rb hl (by omega)).trans h1, Sl.below h2 (ho.below (Nat.le_of_lt hl) (fun j e => by have e : j = g := e; omega)), h3⟩
theorem only_keep {rb g : Nat} {X Y Z : World} (h : OnlyR rb X Y) (hg : X.heap.size ≤ g) (ho : Only (fun b => b = g) Y Z) : OnlyR rb X Z :=
  Only.trans h ho (fun j hj e => by have e : j = g := e; omega)
theorem own_keep {Y Z : World} {base : Nat} {e : TypeId} {s n : Nat} {v : Value} {xs : List Value} (h : Y.ownsRow base e s v n xs) {g : Nat} {T : TypeId} {cs : List Value} (hb : Blk Y g T cs) (hT : T ≠ e) (ho : Only (fun k => k = g) Y Z) : Z.ownsRow base e s v n xs :=
  ho.row h (fun k hk q => by
    have q : k = g := q
    rcases h.2 with ⟨e1, _⟩ | ⟨b, cap, cur, e1, _, hh, _⟩
    · rw [e1] at hk
      cases hk
    · rw [e1] at hk
      have q1 : b = k := by simpa [Value.ownBlock] using hk
      rw [q1, q, hb] at hh
      injection hh with hh
      injection hh with _ hh _
      exact hT hh)
theorem EvO.keep {Y Z : World} {base g : Nat} {x : EvM} (h : EvO Y base x) {T : TypeId} {cs : List Value} (hb : Blk Y g T cs) (hT : T ≠ 3 ∧ T ≠ 80 ∧ T ≠ 5) (ho : Only (fun k => k = g) Y Z) : EvO Z base x :=
  ⟨⟨⟨own_keep h.act.srcs.row hb hT.2.1 ho, fun s hs => own_keep (h.act.srcs.nodes s hs) hb hT.1 ho⟩, own_keep h.act.groups hb hT.1 ho⟩, own_keep h.body hb hT.2.2 ho, h.nob⟩
/-- what event returns. -/
def RetRe (rb : Nat) (st : Option (List Wd)) (X : World) (e : Ending) (Y : World) : Prop :=
  ∃ (a : EvM) (st' : Option (List Wd)), e = .returned (evV a) ∧ RdAt rb st' Y ∧ OnlyR rb X Y ∧ EvO Y X.heap.size a ∧ EvBd a ∧ RdE st st' a.con
theorem rde_of {st st0 st1 st2 : Option (List Wd)} {w : Wd} {t : Int} {e : EvC} (htk : Rds Is64 numW st st0 t) (hw : (∃ r, st0 = some (w :: r) ∧ st1 = some r) ∨ ((st0 = none ∨ st0 = some []) ∧ st1 = none ∧ w = [])) (hk : e.kind = kindR evN w 13) (ht : e.tick = t) (hc : eClr (evF e.kind) e = kindE e.kind e.tick) (hr : RdEs (evF e.kind) st1 st2 e) (hmon : st1 = none → st2 = none) : RdE st st2 e := by
  rcases htk with ⟨ws, r0, e1, e2, h64, e3⟩ | ⟨e1, hn⟩
  · have e3 : ws = itoa t :: r0 := e3
    rw [e1, e3]
    rcases hw with ⟨r, q1, q2⟩ | ⟨q1, q2, q3⟩
    · rw [e2] at q1
      injection q1 with q1
      rw [q1]
      by_cases h0 : e.kind = 0
      · have hno : ¬ EvOk e := fun q => q.1 (by rw [h0]; rfl)
        have hz := kindR_zero (hk.symm.trans h0)
        refine rdE_none (fun k hk => ?_) hno
        by_cases hne : evN k = []
        · rw [← hk, hne]
        · obtain ⟨k1, k2⟩ := evN_in hne
          exact absurd hk (hz k k1 k2)
      · have h1 : evN e.kind = w := by
          rw [hk]
          exact kindR_some (by rw [← hk]; exact h0)
        have hr13 := kindR_range evN w 13
        rw [← hk] at hr13
        have hne : evN e.kind ≠ [] := evN_ne (by omega) (by omega)
        rw [← h1]
        rw [q2] at hr
        rw [← ht]
        exact rdE_done hne (by rw [ht]; exact h64) rfl rfl hc hr
    · have e4 := hmon q2
      rw [e4]
      rcases q1 with q1 | q1
      · rw [e2] at q1
        cases q1
      · rw [e2] at q1
        injection q1 with q1
        rw [q1]
        exact rdE_short (by simp)
  · have q2 : st1 = none := by
      rcases hw with ⟨r, q1, _⟩ | ⟨_, q2, _⟩
      · rw [e1] at q1
        cases q1
      · exact q2
    refine .inr ⟨.inl (hmon q2), fun ws' q b r' hb q' => ?_⟩
    exact hn ws' q b.tick ((evN b.kind :: (evF b.kind).flatMap (eW b)) ++ r') hb.1.2.1 q'
theorem Rds.mon {α : Type} {V : α → Prop} {wf : α → List Wd} {st st' : Option (List Wd)} {a : α} (h : Rds V wf st st' a) (q : st = none) : st' = none := by
  rcases h with ⟨ws, r, e1, _⟩ | ⟨e1, _⟩
  · rw [q] at e1
    cases e1
  · exact e1
def V2 (p : Int × Int) : Prop := Is64 p.1 ∧ Is64 p.2
def w2 (p : Int × Int) : List Wd := [itoa p.1, itoa p.2]
theorem uniq_2 : Uniq V2 w2 := fun a b r r' ha hb h => by
  injection h with h1 h
  injection h with h2 h
  exact ⟨Prod.ext (itoa_inj ha.1 hb.1 h1) (itoa_inj ha.2 hb.2 h2), h⟩
theorem rds_ent {st s1 s2 s3 : Option (List Wd)} {a b : Int} {l : Wd} (h1 : Rds Is64 numW st s1 a) (h2 : Rds Is64 numW s1 s2 b) (h3 : Rds (fun _ => True) bytW s2 s3 l) : Rds (VE 5) (fun e => eW e 5) st s3 { ev0 with eterm := a, ekind := b, ebody := l } := by
  have h12 : Rds V2 w2 st s2 (a, b) := Rds.seq Prod.mk Prod.fst Prod.snd (fun _ _ => rfl) (fun _ _ => rfl) (fun _ => Iff.rfl) (fun _ => rfl) uniq_num h1 h2
  exact Rds.seq (fun (p : Int × Int) (l : Wd) => ({ ev0 with eterm := p.1, ekind := p.2, ebody := l } : EvC)) (fun e => (e.eterm, e.ekind)) (fun e => e.ebody) (fun _ _ => rfl) (fun _ _ => rfl) (fun c => ⟨fun h => ⟨h, trivial⟩, fun h => h.1⟩) (fun _ => rfl) uniq_2 h12 h3
theorem fields_puts {b : Nat} {A : Option Addr} {fs : List Nat} : ∀ (l : List (Nat × Value)) {Y : World} {cs : List Value}, FieldsAt Y A fs → Blk Y b 35 cs → FieldsAt (putCells Y b l) A fs
  | [], _, _, h, _ => h
  | p :: r, _, _, h, hb => fields_puts r (fields_set h ⟨_, _, _, hb, by decide⟩) (hb.set p.1 p.2)
theorem zero_bd {k t : Int} (hk : Is64 k) (ht : Is64 t) : EvBd (EvM.zero k t) :=
  ⟨hk, ht, is64_0, is64_0, is64_0, is64_0, is64_0, is64_0, Nat.zero_le _, ⟨is64_0, is64_0, is64_0, is64_0, is64_0⟩, ⟨is64_0, is64_0, is64_0, is64_0, is64_0⟩, bd_kind is64_0⟩
theorem zero_o (Y : World) (base : Nat) (k t : Int) : EvO Y base (EvM.zero k t) := ⟨ActO.kind _ _ _, OwnV.nil _ _ _, rfl, rfl, rfl⟩
theorem wpList_build_to {P : Program} {ops : Array Oper} {rest : List Oper} {o : Oper} {a : Act} {w : World} {Q : Exit → Act → World → Prop} (hg : o.guard = none) (t : TypeId) (parts : Array (Nat × Operand)) (ho : o.op = .build t parts) (D : Array Value)
    (hf : P.built t (parts.map fun (i, x) => (i, a.eval x)).toList = some D) (h : wpList P ops Q rest (a.put o.dst (.agg D)) w) : wpList P ops Q (o :: rest) a w := by
  refine wpList_build hg t parts ho (by rw [hf]; rfl) ?_
  rw [hf]
  exact h
set_option maxRecDepth 100000 in
set_option maxHeartbeats 16000000 in
theorem revent_any (rb : Nat) (st : Option (List Wd)) (X : World) (h : RdAt rb st X) (hr : Ready X) (hg : Tryz.prog.globals.size ≤ rb) : Calls Tryz.prog 28 #[.pointer (some ⟨rb, 0, none⟩)] X (RetRe rb st X) := by
  have hb0 : Below X.heap.size X (X.alloc (.cells #[.int .i64 0, .int .i64 0, .int .i64 0, .int .i64 0, .int .i64 0, .int .i64 0, .int .i64 0, .int .i64 0, .slice none 0 0, .int .i64 0, .int .i64 0, .int .i64 0, .int .i64 0, .int .i64 0, .int .i64 0, .int .i64 0, .int .i64 0, .int .i64 0, .int .i64 0, .int .i64 0, .int .i64 0, .int .i64 0, .int .i64 0, .int .i64 0, .int .i64 0, .slice none 0 0, .slice none 0 0, .slice none 0 0] 35)) := (Below.refl _ _).alloc (Nat.le_refl _) _
  have hl := h.lt
  have hbo0 := new_obj X (.cells #[.int .i64 0, .int .i64 0, .int .i64 0, .int .i64 0, .int .i64 0, .int .i64 0, .int .i64 0, .int .i64 0, .slice none 0 0, .int .i64 0, .int .i64 0, .int .i64 0, .int .i64 0, .int .i64 0, .int .i64 0, .int .i64 0, .int .i64 0, .int .i64 0, .int .i64 0, .int .i64 0, .int .i64 0, .int .i64 0, .int .i64 0, .int .i64 0, .int .i64 0, .slice none 0 0, .slice none 0 0, .slice none 0 0] 35)
  obtain ⟨X0, hX0⟩ : ∃ X0, X0 = X.alloc (.cells #[.int .i64 0, .int .i64 0, .int .i64 0, .int .i64 0, .int .i64 0, .int .i64 0, .int .i64 0, .int .i64 0, .slice none 0 0, .int .i64 0, .int .i64 0, .int .i64 0, .int .i64 0, .int .i64 0, .int .i64 0, .int .i64 0, .int .i64 0, .int .i64 0, .int .i64 0, .int .i64 0, .int .i64 0, .int .i64 0, .int .i64 0, .int .i64 0, .int .i64 0, .slice none 0 0, .slice none 0 0, .slice none 0 0] 35) := ⟨_, rfl⟩
  have HB := Lib.hid (show Blk X0 X.heap.size 35 [.int .i64 0, .int .i64 0, .int .i64 0, .int .i64 0, .int .i64 0, .int .i64 0, .int .i64 0, .int .i64 0, .slice none 0 0, .int .i64 0, .int .i64 0, .int .i64 0, .int .i64 0, .int .i64 0, .int .i64 0, .int .i64 0, .int .i64 0, .int .i64 0, .int .i64 0, .int .i64 0, .int .i64 0, .int .i64 0, .int .i64 0, .int .i64 0, .int .i64 0, .slice none 0 0, .slice none 0 0, .slice none 0 0] by rw [hX0]; exact hbo0)
  rw [← hX0] at hb0
  have HO0 := Lib.hid (show OnlyR rb X X0 from .of hb0)
  have HR := Lib.hid (And.intro hr (And.intro hg hl))
  have HNM := Lib.hid (rnum_any rb st X0 (h.next hb0) (hr.below hb0) hg)
  clear h hr hg hb0 hbo0
  go_enter Tryz.func28, Tryz.ntmps28
  go_wp2_with fail
  rw [← hX0]
  clear hX0
  refine HNM.out.mono ?_
  rintro e Xt ⟨t, st0, rfl, h1, ho1, h64t, hrdt⟩
  have HT := Lib.hid (And.intro h64t hrdt)
  have HOt := Lib.hid (HO0.out.seq ho1)
  have HBt := Lib.hid (HB.out.only ho1 (by omega))
  have hzt := ho1.size
  obtain ⟨D, hD⟩ : ∃ D, D = (evCs (EvM.zero 0 t)).toArray := ⟨_, rfl⟩
  have hbt : Tryz.prog.built 35 [(1, .int .i64 t)] = some D := by rw [hD]; rfl
  have hszD : (Tryz.prog.info? 35).map (·.size) = some D.size := by rw [hD]; exact ev_size
  have hone : D.all (·.oneCell') = true := by rw [hD]; exact evCs_one _
  have hold : (#[.int .i64 0, .int .i64 0, .int .i64 0, .int .i64 0, .int .i64 0, .int .i64 0, .int .i64 0, .int .i64 0, .slice none 0 0, .int .i64 0, .int .i64 0, .int .i64 0, .int .i64 0, .int .i64 0, .int .i64 0, .int .i64 0, .int .i64 0, .int .i64 0, .int .i64 0, .int .i64 0, .int .i64 0, .int .i64 0, .int .i64 0, .int .i64 0, .int .i64 0, .slice none 0 0, .slice none 0 0, .slice none 0 0] : Array Value).size = D.size := by rw [hD]; rfl
  have HD := Lib.hid hD
  have hrow0 := new_obj Xt (.cells #[.int .i64 0, .int .i64 0, .int .i64 0, .int .i64 0, .int .i64 0, .int .i64 0, .int .i64 0, .int .i64 0, .slice none 0 0, .int .i64 0, .int .i64 0, .int .i64 0, .int .i64 0, .int .i64 0, .int .i64 0, .int .i64 0, .int .i64 0, .int .i64 0, .int .i64 0, .int .i64 0, .int .i64 0, .int .i64 0, .int .i64 0, .int .i64 0, .int .i64 0, .slice none 0 0, .slice none 0 0, .slice none 0 0] 35)
  clear hD
  go_wp2_with (first | (refine wpList_build_to rfl 35 #[(1, .tmp 12)] rfl D (by rw [Array.toList_map]; exact hbt) ?_) | (refine wpList_store_row rfl 35 (.tmp 3) (.tmp 13) rfl Xt.heap.size D rfl rfl 35 _ hrow0 hszD hold hone ?_))
  rw [World.setRow_alloc_new]
  have hb1 : Below Xt.heap.size Xt (Xt.alloc (.cells D 35)) := (Below.refl _ _).alloc (Nat.le_refl _) _
  have hbe := new_obj Xt (.cells D 35)
  obtain ⟨Xu, hXu⟩ : ∃ Xu, Xu = Xt.alloc (.cells D 35) := ⟨_, rfl⟩
  have HBE := Lib.hid (show Blk Xu Xt.heap.size 35 (evCs (EvM.zero 0 t)) by
    show Xu.heap[Xt.heap.size]? = some (.cells (evCs (EvM.zero 0 t)).toArray 35 (0, 0))
    rw [hXu, ← HD.out]
    exact hbe)
  rw [← hXu] at hb1 ⊢
  have HOu := Lib.hid (show OnlyR rb X Xu from HOt.out.seq (.of hb1))
  have HBu := Lib.hid (show Blk Xu X.heap.size 35 [.int .i64 0, .int .i64 0, .int .i64 0, .int .i64 0, .int .i64 0, .int .i64 0, .int .i64 0, .int .i64 0, .slice none 0 0, .int .i64 0, .int .i64 0, .int .i64 0, .int .i64 0, .int .i64 0, .int .i64 0, .int .i64 0, .int .i64 0, .int .i64 0, .int .i64 0, .int .i64 0, .int .i64 0, .int .i64 0, .int .i64 0, .int .i64 0, .int .i64 0, .slice none 0 0, .slice none 0 0, .slice none 0 0] from HBt.out.only (rb := rb) (.of hb1) (by omega))
  have HWD := Lib.hid (rword_any rb st0 Xu (h1.next hb1))
  have hxe : X.heap.size < Xt.heap.size := HBt.out.lt
  obtain ⟨eb, heb⟩ : ∃ eb, eb = Xt.heap.size := ⟨_, rfl⟩
  rw [← heb] at HBE hxe ⊢
  have HEB := Lib.hid hxe
  clear hbt hszD hone hold hrow0 hXu hbe hb1 h1 ho1 h64t hrdt HD HBt HB HO0 HNM heb hzt
  refine HWD.out.mono ?_
  rintro e X1 ⟨w, st1, rfl, h1, ho1, hwl, hcase⟩
  have H1 := Lib.hid (And.intro h1 (And.intro (HOu.out.seq ho1) (And.intro (HBu.out.only ho1 (by omega)) (HBE.out.only ho1 (by omega)))))
  have HC := Lib.hid hcase
  clear h1 ho1 hcase HBE HBu HOu HOt
  go_wp2_with fail
  go_loopw [5, 6] (fun fv iv Y => ∃ (i : Nat) (A : Option Addr), i ≤ 13 ∧ iv = .int .i64 ((i : Int) + 1) ∧ fv = .slice A (evF (kindR evN w i)).length (evF (kindR evN w i)).length ∧ FieldsAt Y A (evF (kindR evN w i)) ∧ RdAt rb st1 Y ∧ OnlyR rb X Y ∧ Blk Y X.heap.size 35 [.int .i64 0, .int .i64 0, .int .i64 0, .int .i64 0, .int .i64 0, .int .i64 0, .int .i64 0, .int .i64 0, .slice none 0 0, .int .i64 0, .int .i64 0, .int .i64 0, .int .i64 0, .int .i64 0, .int .i64 0, .int .i64 0, .int .i64 0, .int .i64 0, .int .i64 0, .int .i64 0, .int .i64 0, .int .i64 0, .int .i64 0, .int .i64 0, .int .i64 0, .slice none 0 0, .slice none 0 0, .slice none 0 0] ∧ Blk Y eb 35 (evCs (EvM.zero (kindR evN w i) t))) (fun _ iv _ => 15 - (intOf iv).toNat)
  case atStart => exact ⟨0, none, Nat.zero_le _, rfl, rfl, .inl rfl, H1.out.1, H1.out.2.1, H1.out.2.2.1, H1.out.2.2.2⟩
  case round =>
    obtain ⟨i, A, hi, rfl, rfl, hfa, hrd, hon, hbo, hba⟩ := hrel
    have HI := Lib.hid (And.intro hfa (And.intro hrd (And.intro hon (And.intro hbo hba))))
    have hab := hba.lt
    obtain ⟨kk, hkk⟩ : ∃ kk, kk = kindR evN w i := ⟨_, rfl⟩
    have HKK := Lib.hid hkk
    obtain ⟨m, hm⟩ : ∃ m, m = (evF kk).length := ⟨_, rfl⟩
    have HM := Lib.hid hm
    rw [← hkk, ← hm]
    clear hfa hrd hon hbo hba
    by_cases hlt : i < 13
    · have d1 : decide ((i : Int) + 1 ≤ 13) = true := decide_eq_true (by omega)
      have HFL := Lib.hid (eFields_any wr ((i : Int) + 1))
      clear hkk hm
      go_wp2_with fail
      refine HFL.out.mono ?_
      rintro e Y2 ⟨A2, rfl, hfa2, hw2⟩
      have hb2 : Below wr.heap.size wr Y2 := by
        rcases hw2 with rfl | rfl
        · exact Below.refl _ _
        · exact (Below.refl _ _).alloc (Nat.le_refl _) _
      have HB2 := Lib.hid hb2
      have HFA2 := Lib.hid hfa2
      have HBA := Lib.hid (HI.out.2.2.2.2.only (OnlyR.of (rb := rb) hb2) (by have := HR.out.2.2; have := HEB.out; omega))
      have HBO := Lib.hid (HI.out.2.2.2.1.only (OnlyR.of (rb := rb) hb2) (by have := HR.out.2.2; omega))
      have hy0 := HBA.out.cell (j := 0) rfl
      have hz0 := HBA.out.free 0
      have hl2 := HBA.out.lt
      have hlen2 : (evF ((i : Int) + 1)).length ≤ 3 := evF_len _
      clear hw2 hb2 hfa2
      by_cases hn : evN ((i : Int) + 1) = w
      · have e1 := str_eq (congrArg bs hn)
        have HN := Lib.hid (show kindR evN w (i + 1) = (i : Int) + 1 by unfold kindR; rw [if_pos hn])
        clear hn
        go_wp2_with fail
        go_roundw
        case rel =>
          refine ⟨i + 1, A2, by omega, by go_num, by rw [HN.out], ?_, ?_, ?_, ?_, ?_⟩
          · rw [HN.out]
            exact fields_set HFA2.out ⟨_, _, _, HBA.out, by decide⟩
          · exact (HI.out.2.1.next HB2.out).set (b := eb) (by have := HR.out.2.2; have := HEB.out; omega) 0 _
          · exact only_set (HI.out.2.2.1.seq (.of HB2.out)) (Nat.le_of_lt HEB.out) 0 _
          · exact HBO.out.other (Nat.ne_of_lt HEB.out) _ _
          · rw [HN.out]
            exact HBA.out.set 0 _
        case measure => simp [intOf]; omega
      · have e1 := str_ne (fun q => hn (bs_inj q) : bs (evN ((i : Int) + 1)) ≠ bs w)
        have HN := Lib.hid (show kindR evN w (i + 1) = kk by rw [HKK.out]; show (if evN ((i : Int) + 1) = w then (i : Int) + 1 else kindR evN w i) = kindR evN w i; rw [if_neg hn])
        clear hn
        go_wp2_with fail
        go_roundw
        case rel =>
          refine ⟨i + 1, A, by omega, by go_num, by rw [HN.out, HM.out], ?_, HI.out.2.1.next HB2.out, HI.out.2.2.1.seq (.of HB2.out), HBO.out, ?_⟩
          · rw [HN.out, HKK.out]
            exact HI.out.1.next HB2.out
          · rw [HN.out, HKK.out]
            exact HBA.out
        case measure => simp [intOf]; omega
    · have hi13 : i = 13 := by omega
      have d1 : decide ((i : Int) + 1 ≤ 13) = false := decide_eq_false (by omega)
      have hm3 : m ≤ 3 := by rw [hm]; exact evF_len kk
      have HK13 := Lib.hid (show kk = kindR evN w 13 by rw [HKK.out, hi13])
      have hkr : 0 ≤ kk ∧ kk ≤ 13 := by
        rw [HK13.out]
        exact kindR_range evN w 13
      have HI2 : Hid (FieldsAt wr A (evF kk) ∧ RdAt rb st1 wr ∧ OnlyR rb X wr ∧ Blk wr X.heap.size 35 [.int .i64 0, .int .i64 0, .int .i64 0, .int .i64 0, .int .i64 0, .int .i64 0, .int .i64 0, .int .i64 0, .slice none 0 0, .int .i64 0, .int .i64 0, .int .i64 0, .int .i64 0, .int .i64 0, .int .i64 0, .int .i64 0, .int .i64 0, .int .i64 0, .int .i64 0, .int .i64 0, .int .i64 0, .int .i64 0, .int .i64 0, .int .i64 0, .int .i64 0, .slice none 0 0, .slice none 0 0, .slice none 0 0] ∧ Blk wr eb 35 (evCs (EvM.zero kk t))) := Lib.hid (by have h := HI.out; rw [← HKK.out] at h; exact h)
      obtain ⟨fs, hfs⟩ : ∃ fs, fs = evF kk := ⟨_, rfl⟩
      have HFS := Lib.hid hfs
      rw [← hfs] at HI2
      rw [← hfs] at HM
      clear hkk hm hfs HI hi13 hi hlt
      obtain ⟨wo, rfl⟩ : ∃ wo : World, wo = wr := ⟨_, rfl⟩
      go_wp2_with fail
      go_loopw [33] (fun iv Y => ∃ (j : Nat) (x : EvM) (st2 : Option (List Wd)), j ≤ m ∧ iv = .int .i64 j ∧ (Blk Y eb 35 (evCs x) ∧ x.kind = kk ∧ x.tick = t ∧ eClr (fs.take j) x.con = kindE kk t ∧ RdEs (fs.take j) st1 st2 x.con ∧ (st1 = none → st2 = none) ∧ EvO Y X.heap.size x ∧ EvBd x) ∧ RdAt rb st2 Y ∧ OnlyR rb X Y ∧ Blk Y X.heap.size 35 [.int .i64 0, .int .i64 0, .int .i64 0, .int .i64 0, .int .i64 0, .int .i64 0, .int .i64 0, .int .i64 0, .slice none 0 0, .int .i64 0, .int .i64 0, .int .i64 0, .int .i64 0, .int .i64 0, .int .i64 0, .int .i64 0, .int .i64 0, .int .i64 0, .int .i64 0, .int .i64 0, .int .i64 0, .int .i64 0, .int .i64 0, .int .i64 0, .int .i64 0, .slice none 0 0, .slice none 0 0, .slice none 0 0] ∧ FieldsAt Y A fs) (fun iv _ => m - (intOf iv).toNat)
      case atStart => exact ⟨0, EvM.zero kk t, st1, Nat.zero_le _, rfl, ⟨HI2.out.2.2.2.2, rfl, rfl, rfl, rdEs_start _ _, fun q => q, zero_o _ _ _ _, zero_bd (by unfold Is64; omega) HT.out.1⟩, HI2.out.2.1, HI2.out.2.2.1, HI2.out.2.2.2.1, HI2.out.1⟩
      case round =>
        obtain ⟨j, x, st2, hj, rfl, hx, hrd, hon, hbo, hfl⟩ := hrel
        have HX := Lib.hid hx
        have HW := Lib.hid (And.intro hrd (And.intro hon (And.intro hbo hfl)))
        have HRW := Lib.hid (HR.out.1.low hon (Nat.le_of_lt HR.out.2.2) HR.out.2.1)
        clear hx hrd hon hbo hfl
        by_cases hlt2 : j < m
        · obtain ⟨f, hf⟩ : ∃ f, fs[j]? = some f := ⟨fs[j]'(by have := HM.out; omega), by simp⟩
          have hf8 : f < 8 := evF_lt kk f (by rw [← HFS.out]; exact List.mem_of_getElem? hf)
          have hlk : ∀ g ∈ fs.take j, g < 8 := fun g hg => evF_lt kk g (by rw [← HFS.out]; exact List.mem_of_mem_take hg)
          have hnt := not_taken (show fs.Nodup by rw [HFS.out]; exact evF_nodup kk) hf
          obtain ⟨fb, hfA, hfbl, hfc⟩ := HW.out.2.2.2.at hf
          have HRND : Hid (∀ (Y' : World) (x' : EvM) (b : EvC) (st3 : Option (List Wd)), x'.con = ePut b x.con f → x'.kind = x.kind → x'.tick = x.tick → RdEf f st2 st3 b → (st2 = none → st3 = none) → Blk Y' eb 35 (evCs x') → EvO Y' X.heap.size x' → EvBd x' → RdAt rb st3 Y' → OnlyR rb X Y' → Blk Y' X.heap.size 35 [.int .i64 0, .int .i64 0, .int .i64 0, .int .i64 0, .int .i64 0, .int .i64 0, .int .i64 0, .int .i64 0, .slice none 0 0, .int .i64 0, .int .i64 0, .int .i64 0, .int .i64 0, .int .i64 0, .int .i64 0, .int .i64 0, .int .i64 0, .int .i64 0, .int .i64 0, .int .i64 0, .int .i64 0, .int .i64 0, .int .i64 0, .int .i64 0, .int .i64 0, .slice none 0 0, .slice none 0 0, .slice none 0 0] → FieldsAt Y' A fs →
              ∃ (j' : Nat) (x2 : EvM) (st4 : Option (List Wd)), j' ≤ m ∧ Value.int .i64 ((j : Int) + 1) = .int .i64 j' ∧ (Blk Y' eb 35 (evCs x2) ∧ x2.kind = kk ∧ x2.tick = t ∧ eClr (fs.take j') x2.con = kindE kk t ∧ RdEs (fs.take j') st1 st4 x2.con ∧ (st1 = none → st4 = none) ∧ EvO Y' X.heap.size x2 ∧ EvBd x2) ∧ RdAt rb st4 Y' ∧ OnlyR rb X Y' ∧ Blk Y' X.heap.size 35 [.int .i64 0, .int .i64 0, .int .i64 0, .int .i64 0, .int .i64 0, .int .i64 0, .int .i64 0, .int .i64 0, .slice none 0 0, .int .i64 0, .int .i64 0, .int .i64 0, .int .i64 0, .int .i64 0, .int .i64 0, .int .i64 0, .int .i64 0, .int .i64 0, .int .i64 0, .int .i64 0, .int .i64 0, .int .i64 0, .int .i64 0, .int .i64 0, .int .i64 0, .slice none 0 0, .slice none 0 0, .slice none 0 0] ∧ FieldsAt Y' A fs) := Lib.hid (fun Y' x' b st3 e1 e2 e2t e3 em e4 e5 e6 e7 e8 e9 e10 => by
            refine ⟨j + 1, x', st3, by omega, by rw [Int.natCast_add]; rfl, ⟨e4, e2.trans HX.out.2.1, e2t.trans HX.out.2.2.1, ?_, ?_, fun q => em (HX.out.2.2.2.2.2.1 q), e5, e6⟩, e7, e8, e9, e10⟩
            · rw [take_snoc hf, e1]
              exact eclr_step hnt hlk hf8 HX.out.2.2.2.1
            · rw [take_snoc hf, e1]
              exact HX.out.2.2.2.2.1.step hnt hlk hf8 e3 em)
          rw [hfA] at HRND ⊢
          have HA8 := Lib.hid hfA
          clear hf hfA hlk hnt
          have hcase : f = 0 ∨ f = 1 ∨ f = 2 ∨ f = 3 ∨ f = 4 ∨ f = 5 ∨ f = 6 ∨ f = 7 := by omega
          rcases hcase with rfl | rfl | rfl | rfl | rfl | rfl | rfl | rfl
          · have HCL := Lib.hid (rnum_any rb st2 wr HW.out.1 HRW.out HR.out.2.1)
            go_wp2_with fail
            refine HCL.out.mono ?_
            rintro e Y2 ⟨n2, st3, rfl, h3, ho, h64, hrd⟩
            have HBX := Lib.hid (HX.out.1.only ho (by have := HR.out.2.2; have := HEB.out; omega))
            have hz := HBX.out.free 2
            have hy := HBX.out.cell (j := 2) rfl
            have hl3 := HBX.out.lt
            have HFIN := Lib.hid (by
              have AA := (HX.out.2.2.2.2.2.2.1.only ho HR.out.2.2).blk HBX.out ⟨by decide, by decide, by decide⟩ 2 (.int .i64 n2)
              have hfl2 := fields_only HW.out.2.2.2 HW.out.1 ho
              rw [HA8.out] at hfl2
              exact HRND.out (Y2.setCell ⟨eb, 2, none⟩ (.int .i64 n2)) ({ x with who := n2 }) ({ ev0 with who := n2 }) st3 rfl rfl rfl (Rds.ef (Rds.of (V := VE 0) (w := fun e => eW e 0) EvC.who (fun _ => Iff.rfl) (fun _ => rfl) (b := { ev0 with who := n2 }) hrd)) hrd.mon (HBX.out.set 2 _) ⟨AA.act, AA.body, AA.nob⟩ ⟨HX.out.2.2.2.2.2.2.2.kind, HX.out.2.2.2.2.2.2.2.tick, h64, HX.out.2.2.2.2.2.2.2.call, HX.out.2.2.2.2.2.2.2.epoch, HX.out.2.2.2.2.2.2.2.n, HX.out.2.2.2.2.2.2.2.eterm, HX.out.2.2.2.2.2.2.2.ekind, HX.out.2.2.2.2.2.2.2.body, HX.out.2.2.2.2.2.2.2.ord, HX.out.2.2.2.2.2.2.2.sta, HX.out.2.2.2.2.2.2.2.act⟩ (h3.set (b := eb) (by have := HR.out.2.2; have := HEB.out; omega) 2 _) (only_set (HW.out.2.1.seq ho) (Nat.le_of_lt HEB.out) 2 _) ((HW.out.2.2.1.only ho (by have := HR.out.2.2; omega)).other (Nat.ne_of_lt HEB.out) _ _) (fields_set hfl2 ⟨_, _, _, HBX.out, by decide⟩))
            clear h3 ho h64 hrd
            go_wp2_with fail
            go_roundw
            case rel => exact HFIN.out
            case measure => simp [intOf]; omega
          · have HCL := Lib.hid (rnum_any rb st2 wr HW.out.1 HRW.out HR.out.2.1)
            go_wp2_with fail
            refine HCL.out.mono ?_
            rintro e Y2 ⟨n2, st3, rfl, h3, ho, h64, hrd⟩
            have HBX := Lib.hid (HX.out.1.only ho (by have := HR.out.2.2; have := HEB.out; omega))
            have hz := HBX.out.free 3
            have hy := HBX.out.cell (j := 3) rfl
            have hl3 := HBX.out.lt
            have HFIN := Lib.hid (by
              have AA := (HX.out.2.2.2.2.2.2.1.only ho HR.out.2.2).blk HBX.out ⟨by decide, by decide, by decide⟩ 3 (.int .i64 n2)
              have hfl2 := fields_only HW.out.2.2.2 HW.out.1 ho
              rw [HA8.out] at hfl2
              exact HRND.out (Y2.setCell ⟨eb, 3, none⟩ (.int .i64 n2)) ({ x with call := n2 }) ({ ev0 with call := n2 }) st3 rfl rfl rfl (Rds.ef (Rds.of (V := VE 1) (w := fun e => eW e 1) EvC.call (fun _ => Iff.rfl) (fun _ => rfl) (b := { ev0 with call := n2 }) hrd)) hrd.mon (HBX.out.set 3 _) ⟨AA.act, AA.body, AA.nob⟩ ⟨HX.out.2.2.2.2.2.2.2.kind, HX.out.2.2.2.2.2.2.2.tick, HX.out.2.2.2.2.2.2.2.who, h64, HX.out.2.2.2.2.2.2.2.epoch, HX.out.2.2.2.2.2.2.2.n, HX.out.2.2.2.2.2.2.2.eterm, HX.out.2.2.2.2.2.2.2.ekind, HX.out.2.2.2.2.2.2.2.body, HX.out.2.2.2.2.2.2.2.ord, HX.out.2.2.2.2.2.2.2.sta, HX.out.2.2.2.2.2.2.2.act⟩ (h3.set (b := eb) (by have := HR.out.2.2; have := HEB.out; omega) 3 _) (only_set (HW.out.2.1.seq ho) (Nat.le_of_lt HEB.out) 3 _) ((HW.out.2.2.1.only ho (by have := HR.out.2.2; omega)).other (Nat.ne_of_lt HEB.out) _ _) (fields_set hfl2 ⟨_, _, _, HBX.out, by decide⟩))
            clear h3 ho h64 hrd
            go_wp2_with fail
            go_roundw
            case rel => exact HFIN.out
            case measure => simp [intOf]; omega
          · have HCL := Lib.hid (rnum_any rb st2 wr HW.out.1 HRW.out HR.out.2.1)
            go_wp2_with fail
            refine HCL.out.mono ?_
            rintro e Y2 ⟨n2, st3, rfl, h3, ho, h64, hrd⟩
            have HBX := Lib.hid (HX.out.1.only ho (by have := HR.out.2.2; have := HEB.out; omega))
            have hz := HBX.out.free 4
            have hy := HBX.out.cell (j := 4) rfl
            have hl3 := HBX.out.lt
            have HFIN := Lib.hid (by
              have AA := (HX.out.2.2.2.2.2.2.1.only ho HR.out.2.2).blk HBX.out ⟨by decide, by decide, by decide⟩ 4 (.int .i64 n2)
              have hfl2 := fields_only HW.out.2.2.2 HW.out.1 ho
              rw [HA8.out] at hfl2
              exact HRND.out (Y2.setCell ⟨eb, 4, none⟩ (.int .i64 n2)) ({ x with epoch := n2 }) ({ ev0 with epoch := n2 }) st3 rfl rfl rfl (Rds.ef (Rds.of (V := VE 2) (w := fun e => eW e 2) EvC.epoch (fun _ => Iff.rfl) (fun _ => rfl) (b := { ev0 with epoch := n2 }) hrd)) hrd.mon (HBX.out.set 4 _) ⟨AA.act, AA.body, AA.nob⟩ ⟨HX.out.2.2.2.2.2.2.2.kind, HX.out.2.2.2.2.2.2.2.tick, HX.out.2.2.2.2.2.2.2.who, HX.out.2.2.2.2.2.2.2.call, h64, HX.out.2.2.2.2.2.2.2.n, HX.out.2.2.2.2.2.2.2.eterm, HX.out.2.2.2.2.2.2.2.ekind, HX.out.2.2.2.2.2.2.2.body, HX.out.2.2.2.2.2.2.2.ord, HX.out.2.2.2.2.2.2.2.sta, HX.out.2.2.2.2.2.2.2.act⟩ (h3.set (b := eb) (by have := HR.out.2.2; have := HEB.out; omega) 4 _) (only_set (HW.out.2.1.seq ho) (Nat.le_of_lt HEB.out) 4 _) ((HW.out.2.2.1.only ho (by have := HR.out.2.2; omega)).other (Nat.ne_of_lt HEB.out) _ _) (fields_set hfl2 ⟨_, _, _, HBX.out, by decide⟩))
            clear h3 ho h64 hrd
            go_wp2_with fail
            go_roundw
            case rel => exact HFIN.out
            case measure => simp [intOf]; omega
          · have HCL := Lib.hid (rnum_any rb st2 wr HW.out.1 HRW.out HR.out.2.1)
            go_wp2_with fail
            refine HCL.out.mono ?_
            rintro e Y2 ⟨n2, st3, rfl, h3, ho, h64, hrd⟩
            have HBX := Lib.hid (HX.out.1.only ho (by have := HR.out.2.2; have := HEB.out; omega))
            have hz := HBX.out.free 5
            have hy := HBX.out.cell (j := 5) rfl
            have hl3 := HBX.out.lt
            have HFIN := Lib.hid (by
              have AA := (HX.out.2.2.2.2.2.2.1.only ho HR.out.2.2).blk HBX.out ⟨by decide, by decide, by decide⟩ 5 (.int .i64 n2)
              have hfl2 := fields_only HW.out.2.2.2 HW.out.1 ho
              rw [HA8.out] at hfl2
              exact HRND.out (Y2.setCell ⟨eb, 5, none⟩ (.int .i64 n2)) ({ x with n := n2 }) ({ ev0 with n := n2 }) st3 rfl rfl rfl (Rds.ef (Rds.of (V := VE 3) (w := fun e => eW e 3) EvC.n (fun _ => Iff.rfl) (fun _ => rfl) (b := { ev0 with n := n2 }) hrd)) hrd.mon (HBX.out.set 5 _) ⟨AA.act, AA.body, AA.nob⟩ ⟨HX.out.2.2.2.2.2.2.2.kind, HX.out.2.2.2.2.2.2.2.tick, HX.out.2.2.2.2.2.2.2.who, HX.out.2.2.2.2.2.2.2.call, HX.out.2.2.2.2.2.2.2.epoch, h64, HX.out.2.2.2.2.2.2.2.eterm, HX.out.2.2.2.2.2.2.2.ekind, HX.out.2.2.2.2.2.2.2.body, HX.out.2.2.2.2.2.2.2.ord, HX.out.2.2.2.2.2.2.2.sta, HX.out.2.2.2.2.2.2.2.act⟩ (h3.set (b := eb) (by have := HR.out.2.2; have := HEB.out; omega) 5 _) (only_set (HW.out.2.1.seq ho) (Nat.le_of_lt HEB.out) 5 _) ((HW.out.2.2.1.only ho (by have := HR.out.2.2; omega)).other (Nat.ne_of_lt HEB.out) _ _) (fields_set hfl2 ⟨_, _, _, HBX.out, by decide⟩))
            clear h3 ho h64 hrd
            go_wp2_with fail
            go_roundw
            case rel => exact HFIN.out
            case measure => simp [intOf]; omega
          · have HCL := Lib.hid (raction_any rb st2 wr HW.out.1 HRW.out HR.out.2.1)
            go_wp2_with fail
            refine HCL.out.mono ?_
            rintro e Y2 ⟨a2, st3, rfl, h3, ho, hao, hab, hrd, hmon⟩
            have HBX := Lib.hid (HX.out.1.only ho (by have := HR.out.2.2; have := HEB.out; omega))
            have hz19 := HBX.out.free 19
            have hy19 := HBX.out.cell (j := 19) rfl
            have hz20 := HBX.out.free 20
            have hy20 := HBX.out.cell (j := 20) rfl
            have hz21 := HBX.out.free 21
            have hy21 := HBX.out.cell (j := 21) rfl
            have hz22 := HBX.out.free 22
            have hy22 := HBX.out.cell (j := 22) rfl
            have hz23 := HBX.out.free 23
            have hy23 := HBX.out.cell (j := 23) rfl
            have hz24 := HBX.out.free 24
            have hy24 := HBX.out.cell (j := 24) rfl
            have hz25 := HBX.out.free 25
            have hy25 := HBX.out.cell (j := 25) rfl
            have hz26 := HBX.out.free 26
            have hy26 := HBX.out.cell (j := 26) rfl
            have hl3 := HBX.out.lt
            have HFIN := Lib.hid (by
              have AA := HX.out.2.2.2.2.2.2.1.only ho HR.out.2.2
              have HSZ := HW.out.2.1.size
              have hfl2 := fields_only HW.out.2.2.2 HW.out.1 ho
              rw [HA8.out] at hfl2
              exact HRND.out (putCells Y2 eb [(19, .int .i64 a2.kind), (20, .int .i64 a2.who), (21, .int .i64 a2.n), (22, .int .i64 a2.call), (23, .int .i64 a2.other), (24, .int .i64 a2.node), (25, .slice a2.sA a2.srcs.length a2.sc), (26, .slice a2.gA a2.groups.length a2.gc)]) ({ x with act := a2 }) ({ ev0 with act := a2.con }) st3 rfl rfl rfl (RdA.ef hrd) hmon (HBX.out.puts [(19, .int .i64 a2.kind), (20, .int .i64 a2.who), (21, .int .i64 a2.n), (22, .int .i64 a2.call), (23, .int .i64 a2.other), (24, .int .i64 a2.node), (25, .slice a2.sA a2.srcs.length a2.sc), (26, .slice a2.gA a2.groups.length a2.gc)]) ⟨ActO.puts ⟨by decide, by decide⟩ [(19, .int .i64 a2.kind), (20, .int .i64 a2.who), (21, .int .i64 a2.n), (22, .int .i64 a2.call), (23, .int .i64 a2.other), (24, .int .i64 a2.node), (25, .slice a2.sA a2.srcs.length a2.sc), (26, .slice a2.gA a2.groups.length a2.gc)] (⟨hao.srcs.base HSZ, hao.groups.base_le HSZ⟩ : ActO Y2 X.heap.size a2) HBX.out, own_puts (by decide) [(19, .int .i64 a2.kind), (20, .int .i64 a2.who), (21, .int .i64 a2.n), (22, .int .i64 a2.call), (23, .int .i64 a2.other), (24, .int .i64 a2.node), (25, .slice a2.sA a2.srcs.length a2.sc), (26, .slice a2.gA a2.groups.length a2.gc)] AA.body HBX.out, AA.nob⟩ ⟨HX.out.2.2.2.2.2.2.2.kind, HX.out.2.2.2.2.2.2.2.tick, HX.out.2.2.2.2.2.2.2.who, HX.out.2.2.2.2.2.2.2.call, HX.out.2.2.2.2.2.2.2.epoch, HX.out.2.2.2.2.2.2.2.n, HX.out.2.2.2.2.2.2.2.eterm, HX.out.2.2.2.2.2.2.2.ekind, HX.out.2.2.2.2.2.2.2.body, HX.out.2.2.2.2.2.2.2.ord, HX.out.2.2.2.2.2.2.2.sta, hab⟩ (RdAt.puts (by have := HR.out.2.2; have := HEB.out; omega) [(19, .int .i64 a2.kind), (20, .int .i64 a2.who), (21, .int .i64 a2.n), (22, .int .i64 a2.call), (23, .int .i64 a2.other), (24, .int .i64 a2.node), (25, .slice a2.sA a2.srcs.length a2.sc), (26, .slice a2.gA a2.groups.length a2.gc)] h3) (only_puts (Nat.le_of_lt HEB.out) [(19, .int .i64 a2.kind), (20, .int .i64 a2.who), (21, .int .i64 a2.n), (22, .int .i64 a2.call), (23, .int .i64 a2.other), (24, .int .i64 a2.node), (25, .slice a2.sA a2.srcs.length a2.sc), (26, .slice a2.gA a2.groups.length a2.gc)] (HW.out.2.1.seq ho)) (Blk.putsOther (Nat.ne_of_lt HEB.out) [(19, .int .i64 a2.kind), (20, .int .i64 a2.who), (21, .int .i64 a2.n), (22, .int .i64 a2.call), (23, .int .i64 a2.other), (24, .int .i64 a2.node), (25, .slice a2.sA a2.srcs.length a2.sc), (26, .slice a2.gA a2.groups.length a2.gc)] (HW.out.2.2.1.only ho (by have := HR.out.2.2; omega))) (fields_puts [(19, .int .i64 a2.kind), (20, .int .i64 a2.who), (21, .int .i64 a2.n), (22, .int .i64 a2.call), (23, .int .i64 a2.other), (24, .int .i64 a2.node), (25, .slice a2.sA a2.srcs.length a2.sc), (26, .slice a2.gA a2.groups.length a2.gc)] hfl2 HBX.out))
            clear h3 ho hrd hao hab hmon
            simp only [actV]
            go_wp2_with fail
            go_roundw
            case rel => exact HFIN.out
            case measure => simp [intOf]; omega
          · have HCL := Lib.hid (rnum_any rb st2 wr HW.out.1 HRW.out HR.out.2.1)
            go_wp2_with fail
            refine HCL.out.mono ?_
            rintro e Y1 ⟨n1, s1, rfl, h1, ho1, h641, hrd1⟩
            have HCL2 := Lib.hid (rnum_any rb s1 Y1 h1 (HRW.out.low ho1 (Nat.le_of_lt HW.out.1.lt) HR.out.2.1) HR.out.2.1)
            have HQ1 := Lib.hid (And.intro ho1 (And.intro h641 hrd1))
            clear h1 ho1 h641 hrd1
            go_wp2_with fail
            refine HCL2.out.mono ?_
            rintro e Y2 ⟨n2, s2, rfl, h2, ho2, h642, hrd2⟩
            have HCL3 := Lib.hid (rbytes_any rb s2 Y2 h2)
            have HQ2 := Lib.hid (And.intro ho2 (And.intro h642 hrd2))
            clear h2 ho2 h642 hrd2
            go_wp2_with fail
            refine HCL3.out.mono ?_
            rintro e Y3 ⟨l5, A5, c5, st3, rfl, h3, ho3, hown, hlen, hrd3⟩
            have ho : OnlyR rb wr Y3 := (HQ1.out.1.seq HQ2.out.1).seq ho3
            have HBX := Lib.hid (HX.out.1.only ho (by have := HR.out.2.2; have := HEB.out; omega))
            have hz6 := HBX.out.free 6
            have hy6 := HBX.out.cell (j := 6) rfl
            have hz7 := HBX.out.free 7
            have hy7 := HBX.out.cell (j := 7) rfl
            have hz8 := HBX.out.free 8
            have hy8 := HBX.out.cell (j := 8) rfl
            have hl3 := HBX.out.lt
            have HFIN := Lib.hid (by
              have AA := HX.out.2.2.2.2.2.2.1.only ho HR.out.2.2
              have HSZ : X.heap.size ≤ Y2.heap.size := Nat.le_trans HW.out.2.1.size (Nat.le_trans HQ1.out.1.size HQ2.out.1.size)
              have hfl2 := fields_only HW.out.2.2.2 HW.out.1 ho
              rw [HA8.out] at hfl2
              exact HRND.out (putCells Y3 eb [(6, .int .i64 n1), (7, .int .i64 n2), (8, .slice A5 l5.length c5)]) ({ x with eterm := n1, ekind := n2, eA := A5, ec := c5, ebody := l5 }) ({ ev0 with eterm := n1, ekind := n2, ebody := l5 }) st3 rfl rfl rfl (Rds.ef (rds_ent HQ1.out.2.2 HQ2.out.2.2 hrd3)) (fun q => hrd3.mon (HQ2.out.2.2.mon (HQ1.out.2.2.mon q))) (HBX.out.puts [(6, .int .i64 n1), (7, .int .i64 n2), (8, .slice A5 l5.length c5)]) ⟨ActO.puts ⟨by decide, by decide⟩ [(6, .int .i64 n1), (7, .int .i64 n2), (8, .slice A5 l5.length c5)] AA.act HBX.out, own_puts (by decide) [(6, .int .i64 n1), (7, .int .i64 n2), (8, .slice A5 l5.length c5)] (hown.base_le HSZ) HBX.out, AA.nob⟩ ⟨HX.out.2.2.2.2.2.2.2.kind, HX.out.2.2.2.2.2.2.2.tick, HX.out.2.2.2.2.2.2.2.who, HX.out.2.2.2.2.2.2.2.call, HX.out.2.2.2.2.2.2.2.epoch, HX.out.2.2.2.2.2.2.2.n, HQ1.out.2.1, HQ2.out.2.1, hlen, HX.out.2.2.2.2.2.2.2.ord, HX.out.2.2.2.2.2.2.2.sta, HX.out.2.2.2.2.2.2.2.act⟩ (RdAt.puts (by have := HR.out.2.2; have := HEB.out; omega) [(6, .int .i64 n1), (7, .int .i64 n2), (8, .slice A5 l5.length c5)] h3) (only_puts (Nat.le_of_lt HEB.out) [(6, .int .i64 n1), (7, .int .i64 n2), (8, .slice A5 l5.length c5)] (HW.out.2.1.seq ho)) (Blk.putsOther (Nat.ne_of_lt HEB.out) [(6, .int .i64 n1), (7, .int .i64 n2), (8, .slice A5 l5.length c5)] (HW.out.2.2.1.only ho (by have := HR.out.2.2; omega))) (fields_puts [(6, .int .i64 n1), (7, .int .i64 n2), (8, .slice A5 l5.length c5)] hfl2 HBX.out))
            clear h3 ho3 ho hown hlen hrd3
            go_wp2_with fail
            go_roundw
            case rel => exact HFIN.out
            case measure => simp [intOf]; omega
          · have HCL := Lib.hid (rord_any rb st2 wr HW.out.1 HRW.out HR.out.2.1)
            go_wp2_with fail
            refine HCL.out.mono ?_
            rintro e Y2 ⟨a2, st3, rfl, h3, ho, hab, hrd⟩
            have HBX := Lib.hid (HX.out.1.only ho (by have := HR.out.2.2; have := HEB.out; omega))
            have hz9 := HBX.out.free 9
            have hy9 := HBX.out.cell (j := 9) rfl
            have hz10 := HBX.out.free 10
            have hy10 := HBX.out.cell (j := 10) rfl
            have hz11 := HBX.out.free 11
            have hy11 := HBX.out.cell (j := 11) rfl
            have hz12 := HBX.out.free 12
            have hy12 := HBX.out.cell (j := 12) rfl
            have hz13 := HBX.out.free 13
            have hy13 := HBX.out.cell (j := 13) rfl
            have hl3 := HBX.out.lt
            have HFIN := Lib.hid (by
              have AA := HX.out.2.2.2.2.2.2.1.only ho HR.out.2.2
              have HSZ := HW.out.2.1.size
              have hfl2 := fields_only HW.out.2.2.2 HW.out.1 ho
              rw [HA8.out] at hfl2
              exact HRND.out (putCells Y2 eb [(9, .int .i64 a2.unit), (10, .int .i64 a2.epoch), (11, .int .i64 a2.kind), (12, .int .i64 a2.incident), (13, .int .i64 a2.node)]) ({ x with ord := a2 }) ({ ev0 with ord := a2 }) st3 rfl rfl rfl (Rds.ef (Rds.of (V := VE 6) (w := fun e => eW e 6) EvC.ord (fun _ => Iff.rfl) (fun _ => rfl) (b := { ev0 with ord := a2 }) hrd)) hrd.mon (HBX.out.puts [(9, .int .i64 a2.unit), (10, .int .i64 a2.epoch), (11, .int .i64 a2.kind), (12, .int .i64 a2.incident), (13, .int .i64 a2.node)]) ⟨ActO.puts ⟨by decide, by decide⟩ [(9, .int .i64 a2.unit), (10, .int .i64 a2.epoch), (11, .int .i64 a2.kind), (12, .int .i64 a2.incident), (13, .int .i64 a2.node)] AA.act HBX.out, own_puts (by decide) [(9, .int .i64 a2.unit), (10, .int .i64 a2.epoch), (11, .int .i64 a2.kind), (12, .int .i64 a2.incident), (13, .int .i64 a2.node)] AA.body HBX.out, AA.nob⟩ ⟨HX.out.2.2.2.2.2.2.2.kind, HX.out.2.2.2.2.2.2.2.tick, HX.out.2.2.2.2.2.2.2.who, HX.out.2.2.2.2.2.2.2.call, HX.out.2.2.2.2.2.2.2.epoch, HX.out.2.2.2.2.2.2.2.n, HX.out.2.2.2.2.2.2.2.eterm, HX.out.2.2.2.2.2.2.2.ekind, HX.out.2.2.2.2.2.2.2.body, hab, HX.out.2.2.2.2.2.2.2.sta, HX.out.2.2.2.2.2.2.2.act⟩ (RdAt.puts (by have := HR.out.2.2; have := HEB.out; omega) [(9, .int .i64 a2.unit), (10, .int .i64 a2.epoch), (11, .int .i64 a2.kind), (12, .int .i64 a2.incident), (13, .int .i64 a2.node)] h3) (only_puts (Nat.le_of_lt HEB.out) [(9, .int .i64 a2.unit), (10, .int .i64 a2.epoch), (11, .int .i64 a2.kind), (12, .int .i64 a2.incident), (13, .int .i64 a2.node)] (HW.out.2.1.seq ho)) (Blk.putsOther (Nat.ne_of_lt HEB.out) [(9, .int .i64 a2.unit), (10, .int .i64 a2.epoch), (11, .int .i64 a2.kind), (12, .int .i64 a2.incident), (13, .int .i64 a2.node)] (HW.out.2.2.1.only ho (by have := HR.out.2.2; omega))) (fields_puts [(9, .int .i64 a2.unit), (10, .int .i64 a2.epoch), (11, .int .i64 a2.kind), (12, .int .i64 a2.incident), (13, .int .i64 a2.node)] hfl2 HBX.out))
            clear h3 ho hrd hab
            simp only [ordV]
            go_wp2_with fail
            go_roundw
            case rel => exact HFIN.out
            case measure => simp [intOf]; omega
          · have HCL := Lib.hid (rsta_any rb st2 wr HW.out.1 HRW.out HR.out.2.1)
            go_wp2_with fail
            refine HCL.out.mono ?_
            rintro e Y2 ⟨a2, st3, rfl, h3, ho, hab, hrd⟩
            have HBX := Lib.hid (HX.out.1.only ho (by have := HR.out.2.2; have := HEB.out; omega))
            have hz14 := HBX.out.free 14
            have hy14 := HBX.out.cell (j := 14) rfl
            have hz15 := HBX.out.free 15
            have hy15 := HBX.out.cell (j := 15) rfl
            have hz16 := HBX.out.free 16
            have hy16 := HBX.out.cell (j := 16) rfl
            have hz17 := HBX.out.free 17
            have hy17 := HBX.out.cell (j := 17) rfl
            have hz18 := HBX.out.free 18
            have hy18 := HBX.out.cell (j := 18) rfl
            have hl3 := HBX.out.lt
            have HFIN := Lib.hid (by
              have AA := HX.out.2.2.2.2.2.2.1.only ho HR.out.2.2
              have HSZ := HW.out.2.1.size
              have hfl2 := fields_only HW.out.2.2.2 HW.out.1 ho
              rw [HA8.out] at hfl2
              exact HRND.out (putCells Y2 eb [(14, .int .i64 a2.unit), (15, .int .i64 a2.seq), (16, .int .i64 a2.state), (17, .int .i64 a2.node), (18, .int .i64 a2.epoch)]) ({ x with sta := a2 }) ({ ev0 with sta := a2 }) st3 rfl rfl rfl (Rds.ef (Rds.of (V := VE 7) (w := fun e => eW e 7) EvC.sta (fun _ => Iff.rfl) (fun _ => rfl) (b := { ev0 with sta := a2 }) hrd)) hrd.mon (HBX.out.puts [(14, .int .i64 a2.unit), (15, .int .i64 a2.seq), (16, .int .i64 a2.state), (17, .int .i64 a2.node), (18, .int .i64 a2.epoch)]) ⟨ActO.puts ⟨by decide, by decide⟩ [(14, .int .i64 a2.unit), (15, .int .i64 a2.seq), (16, .int .i64 a2.state), (17, .int .i64 a2.node), (18, .int .i64 a2.epoch)] AA.act HBX.out, own_puts (by decide) [(14, .int .i64 a2.unit), (15, .int .i64 a2.seq), (16, .int .i64 a2.state), (17, .int .i64 a2.node), (18, .int .i64 a2.epoch)] AA.body HBX.out, AA.nob⟩ ⟨HX.out.2.2.2.2.2.2.2.kind, HX.out.2.2.2.2.2.2.2.tick, HX.out.2.2.2.2.2.2.2.who, HX.out.2.2.2.2.2.2.2.call, HX.out.2.2.2.2.2.2.2.epoch, HX.out.2.2.2.2.2.2.2.n, HX.out.2.2.2.2.2.2.2.eterm, HX.out.2.2.2.2.2.2.2.ekind, HX.out.2.2.2.2.2.2.2.body, HX.out.2.2.2.2.2.2.2.ord, hab, HX.out.2.2.2.2.2.2.2.act⟩ (RdAt.puts (by have := HR.out.2.2; have := HEB.out; omega) [(14, .int .i64 a2.unit), (15, .int .i64 a2.seq), (16, .int .i64 a2.state), (17, .int .i64 a2.node), (18, .int .i64 a2.epoch)] h3) (only_puts (Nat.le_of_lt HEB.out) [(14, .int .i64 a2.unit), (15, .int .i64 a2.seq), (16, .int .i64 a2.state), (17, .int .i64 a2.node), (18, .int .i64 a2.epoch)] (HW.out.2.1.seq ho)) (Blk.putsOther (Nat.ne_of_lt HEB.out) [(14, .int .i64 a2.unit), (15, .int .i64 a2.seq), (16, .int .i64 a2.state), (17, .int .i64 a2.node), (18, .int .i64 a2.epoch)] (HW.out.2.2.1.only ho (by have := HR.out.2.2; omega))) (fields_puts [(14, .int .i64 a2.unit), (15, .int .i64 a2.seq), (16, .int .i64 a2.state), (17, .int .i64 a2.node), (18, .int .i64 a2.epoch)] hfl2 HBX.out))
            clear h3 ho hrd hab
            simp only [staV]
            go_wp2_with fail
            go_roundw
            case rel => exact HFIN.out
            case measure => simp [intOf]; omega
        · obtain rfl : j = m := by omega
          have e : fs.take j = fs := List.take_of_length_le (by have := HM.out; omega)
          have HRE : Hid (RdE st st2 x.con) := Lib.hid (by
            have hk : x.con.kind = kk := HX.out.2.1
            have ht : x.con.tick = t := HX.out.2.2.1
            refine rde_of HT.out.2 HC.out (hk.trans HK13.out) ht ?_ ?_ HX.out.2.2.2.2.2.1
            · have h := HX.out.2.2.2.1
              rw [e, HFS.out] at h
              rw [hk, ht]
              exact h
            · have h := HX.out.2.2.2.2.1
              rw [e, HFS.out] at h
              rw [hk]
              exact h)
          obtain ⟨D2, hD2⟩ : ∃ D2, D2 = (evCs x).toArray := ⟨_, rfl⟩
          have hrow : wr.heap[eb]? = some (.cells D2 35 (0, 0)) := by rw [hD2]; exact HX.out.1
          have holdr : wr.heap[X.heap.size]? = some (.cells #[.int .i64 0, .int .i64 0, .int .i64 0, .int .i64 0, .int .i64 0, .int .i64 0, .int .i64 0, .int .i64 0, .slice none 0 0, .int .i64 0, .int .i64 0, .int .i64 0, .int .i64 0, .int .i64 0, .int .i64 0, .int .i64 0, .int .i64 0, .int .i64 0, .int .i64 0, .int .i64 0, .int .i64 0, .int .i64 0, .int .i64 0, .int .i64 0, .int .i64 0, .slice none 0 0, .slice none 0 0, .slice none 0 0] 35 (0, 0)) := HW.out.2.2.1
          have hsz2 : (Tryz.prog.info? 35).map (·.size) = some D2.size := by rw [hD2]; exact ev_size
          have hone2 : D2.all (·.oneCell') = true := by rw [hD2]; exact evCs_one _
          have hzs : (#[.int .i64 0, .int .i64 0, .int .i64 0, .int .i64 0, .int .i64 0, .int .i64 0, .int .i64 0, .int .i64 0, .slice none 0 0, .int .i64 0, .int .i64 0, .int .i64 0, .int .i64 0, .int .i64 0, .int .i64 0, .int .i64 0, .int .i64 0, .int .i64 0, .int .i64 0, .int .i64 0, .int .i64 0, .int .i64 0, .int .i64 0, .int .i64 0, .int .i64 0, .slice none 0 0, .slice none 0 0, .slice none 0 0] : Array Value).size = D2.size := by rw [hD2]; rfl
          have HD2 := Lib.hid hD2
          clear e hD2
          go_wp2_with (first | (refine wpList_load_row_g (by rfl) 35 (.tmp 3) rfl eb rfl 35 D2 (0, 0) _ hrow Tryz.underlying35 rfl hsz2 ?_) | (refine wpList_store_row rfl 35 (.tmp 2) _ rfl X.heap.size D2 rfl rfl 35 _ holdr hsz2 hzs hone2 ?_))
          have hoz := only_row2 wr X.heap.size D2
          refine bodyPost_ret (results_cell1 Tryz.results28 _ _ X.heap.size 35 D2 (0, 0) _ (by rfl) (setRow_heap _ _ _ _ _ _ holdr) Tryz.underlying35 rfl hsz2) rfl ?_
          exact ⟨x, st2, by rw [HD2.out]; rfl, HW.out.1.keep (by have := HR.out.2.2; omega) hoz, only_keep HW.out.2.1 (Nat.le_refl _) hoz, HX.out.2.2.2.2.2.2.1.keep HW.out.2.2.1 ⟨by decide, by decide, by decide⟩ hoz, HX.out.2.2.2.2.2.2.2, HRE.out⟩
end Go.Proofs.YtakdkiggaalimaaGreatDoor
