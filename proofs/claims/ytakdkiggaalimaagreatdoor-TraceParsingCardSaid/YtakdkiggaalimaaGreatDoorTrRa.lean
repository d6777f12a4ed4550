/-
  trace.reader: action (printed by gentrra.py).
-/
import Derived.Test.YtakdkiggaalimaaGreatDoorTrRo
import Derived.Test.YtakdkiggaalimaaGreatDoorTrVe
namespace Go.Proofs.YtakdkiggaalimaaGreatDoor
open Go.RowKit Go.Maps
open Go.Lib (itoa)

theorem kindR_zero {nm : Int → Wd} {w : Wd} : ∀ {n : Nat}, kindR nm w n = 0 → ∀ j : Int, 1 ≤ j → j ≤ n → nm j ≠ w
  | 0, _, j, h1, h2 => by omega
  | n + 1, h, j, h1, h2 => by
    unfold kindR at h
    split at h
    · omega
    · rename_i q
      by_cases e : j = (n : Int) + 1
      · rw [e]
        exact q
      · exact kindR_zero h j h1 (by omega)
/-- a row of one's own and a store into a block of another type. -/
theorem own_blk {Y : World} {base : Nat} {e : TypeId} {s n : Nat} {v : Value} {xs : List Value} (h : Y.ownsRow base e s v n xs) {b : Nat} {T : TypeId} {cs : List Value} (hb : Blk Y b T cs) (hT : T ≠ e) (j : Nat) (u : Value) : (Y.setCell ⟨b, j, none⟩ u).ownsRow base e s v n xs :=
  Only.row (S := fun k => k = b) (Only.setCell (S := fun k => k = b) Only.refl (a := ⟨b, j, none⟩) (fun _ => rfl) u) h (fun k hk q => by
    have q : k = b := q
    rcases h.2 with ⟨e1, _⟩ | ⟨g, cap, cur, e1, _, hh, _⟩
    · rw [e1] at hk
      cases hk
    · rw [e1] at hk
      have q1 : g = k := by simpa [Value.ownBlock] using hk
      rw [q1, q, hb] at hh
      injection hh with hh
      injection hh with _ hh _
      exact hT hh)
/-- an action under way: its lists are of the call's own. -/
structure ActO (Y : World) (base : Nat) (a : ActM) : Prop where
  srcs : SrcO Y base (.slice a.sA a.srcs.length a.sc) a.srcs
  groups : OwnI Y base 3 (.slice a.gA a.groups.length a.gc) a.groups
structure ActBd (a : ActM) : Prop where
  kind : Is64 a.kind
  who : Is64 a.who
  n : Is64 a.n
  call : Is64 a.call
  other : Is64 a.other
  node : Is64 a.node
  srcs : a.srcs.length ≤ 1000000 ∧ ∀ s ∈ a.srcs, SrcB s
  groups : a.groups.length ≤ 1000000 ∧ ∀ v ∈ a.groups, Is64 v
theorem SrcO.blk {Y : World} {base : Nat} {v : Value} {l : List SrcM} (h : SrcO Y base v l) {b : Nat} {T : TypeId} {cs : List Value} (hb : Blk Y b T cs) (hT : T ≠ 3 ∧ T ≠ 80) (j : Nat) (u : Value) : SrcO (Y.setCell ⟨b, j, none⟩ u) base v l :=
  ⟨own_blk h.row hb hT.2 j u, fun s hs => own_blk (h.nodes s hs) hb hT.1 j u⟩
theorem ActO.blk {Y : World} {base : Nat} {a : ActM} (h : ActO Y base a) {b : Nat} {T : TypeId} {cs : List Value} (hb : Blk Y b T cs) (hT : T ≠ 3 ∧ T ≠ 80) (j : Nat) (u : Value) : ActO (Y.setCell ⟨b, j, none⟩ u) base a :=
  ⟨h.srcs.blk hb hT j u, own_blk h.groups hb hT.1 j u⟩
theorem ActO.only {rb : Nat} {Y Z : World} {base : Nat} {a : ActM} (h : ActO Y base a) (ho : OnlyR rb Y Z) (hb : rb < base) : ActO Z base a := ⟨h.srcs.only ho hb, own_i_only ho h.groups hb⟩
theorem ActO.kind (Y : World) (base : Nat) (k : Int) : ActO Y base (kindM k) := ⟨SrcO.nil _ _, nil_own _ _⟩
theorem ActO.at {Y : World} {base : Nat} {a : ActM} (h : ActO Y base a) : ActAt Y Y.heap.size a := by
  obtain ⟨A, c, e, hs⟩ := Sl.own h.srcs.row
  injection e with e1 _ _
  subst e1
  obtain ⟨A2, c2, e2, hg⟩ := OwnV.sl h.groups
  injection e2 with e2 _ _
  subst e2
  refine ⟨⟨hs, fun s hss => ?_⟩, hg⟩
  obtain ⟨A3, c3, e3, h3⟩ := OwnV.sl (h.srcs.nodes s hss)
  injection e3 with e3 _ _
  subst e3
  exact h3
theorem SrcO.base {Y : World} {base base' : Nat} {v : Value} {l : List SrcM} (h : SrcO Y base v l) (hb : base' ≤ base) : SrcO Y base' v l := by
  refine ⟨?_, fun s hs => (h.nodes s hs).base_le hb⟩
  obtain ⟨h1, h2⟩ := h.row
  refine ⟨h1, ?_⟩
  rcases h2 with h2 | ⟨g, cap, cur, e, hg, r⟩
  · exact .inl h2
  · exact .inr ⟨g, cap, cur, e, Nat.le_trans hb hg, r⟩
theorem bd_kind {k : Int} (h : Is64 k) : ActBd (kindM k) := ⟨h, is64_0, is64_0, is64_0, is64_0, is64_0, ⟨Nat.zero_le _, (fun s hs => by cases hs)⟩, ⟨Nat.zero_le _, (fun s hs => by cases hs)⟩⟩
theorem fields_only {rb : Nat} {st : Option (List Wd)} {Y Z : World} {A : Option Addr} {fs : List Nat} (h : FieldsAt Y A fs) (hr : RdAt rb st Y) (ho : OnlyR rb Y Z) : FieldsAt Z A fs := fields_heap h fun b cs fr q => by
  refine ho.block b (Array.getElem?_eq_some_iff.1 q).1 (fun e => ?_)
  have e : b = rb := e
  obtain ⟨_, _, _, _, h1, _⟩ := hr
  rw [e, h1] at q
  injection q with q
  injection q with _ q _
  exact absurd q (by decide)
/-- what action returns. -/
def RetRa (rb : Nat) (st : Option (List Wd)) (X : World) (e : Ending) (Y : World) : Prop :=
  ∃ (a : ActM) (st' : Option (List Wd)), e = .returned (actV a) ∧ RdAt rb st' Y ∧ OnlyR rb X Y ∧ ActO Y X.heap.size a ∧ ActBd a ∧ RdA st st' a.con ∧ (st = none → st' = none)
/-- what action has read becomes what RdA says. -/
theorem rda_of {st st1 st2 : Option (List Wd)} {w : Wd} {a : ActC} (hw : (∃ r, st = some (w :: r) ∧ st1 = some r) ∨ ((st = none ∨ st = some []) ∧ st1 = none ∧ w = [])) (hk : a.kind = kindR actN w 19) (hc : aClr (actF a.kind) a = kindA a.kind) (hr : Rds (VAs (actF a.kind)) (asW (actF a.kind)) st1 st2 a) : RdA st st2 a := by
  by_cases h0 : a.kind = 0
  · have hno : ¬ ActOk a := fun q => q.1 (by rw [h0]; rfl)
    have hz := kindR_zero (hk.symm.trans h0)
    rcases hw with ⟨r, e1, e2⟩ | ⟨e1, e2, e3⟩
    · rw [e1]
      refine rdA_none (fun k hk => ?_) hno
      by_cases hn : actN k = []
      · rw [← hk, hn]
      · obtain ⟨k1, k2⟩ := actN_in hn
        exact absurd hk (hz k k1 k2)
    · have e4 : st2 = none := by
        rcases hr with ⟨ws, r, q1, _⟩ | ⟨q1, _⟩
        · rw [e2] at q1
          cases q1
        · exact q1
      rw [e4]
      rcases e1 with e1 | e1
      · rw [e1]
        exact rdA_bad
      · rw [e1]
        exact rdA_empty
  · have h1 : actN a.kind = w := by
      rw [hk]
      exact kindR_some (by rw [← hk]; exact h0)
    have hr19 := kindR_range actN w 19
    rw [← hk] at hr19
    have hne : actN a.kind ≠ [] := actN_ne (by omega) (by omega)
    rcases hw with ⟨r, e1, e2⟩ | ⟨e1, e2, e3⟩
    · rw [e1, ← h1]
      rw [e2] at hr
      exact rdA_done hne rfl hc hr
    · rw [e3] at h1
      exact absurd h1 hne
set_option maxRecDepth 100000 in
set_option maxHeartbeats 8000000 in
theorem raction_any (rb : Nat) (st : Option (List Wd)) (X : World) (h : RdAt rb st X) (hr : Ready X) (hg : Tryz.prog.globals.size ≤ rb) : Calls Tryz.prog 49 #[.pointer (some ⟨rb, 0, none⟩)] X (RetRa rb st X) := by
  obtain ⟨hbo, hbt⟩ := two_blk X [.int .i64 0, .int .i64 0, .int .i64 0, .int .i64 0, .int .i64 0, .int .i64 0, .slice none 0 0, .slice none 0 0] [.int .i64 0, .int .i64 0, .int .i64 0, .int .i64 0, .int .i64 0, .int .i64 0, .slice none 0 0, .slice none 0 0] 33 33
  have hb0 : Below X.heap.size X ((X.alloc (.cells #[.int .i64 0, .int .i64 0, .int .i64 0, .int .i64 0, .int .i64 0, .int .i64 0, .slice none 0 0, .slice none 0 0] 33)).alloc (.cells #[.int .i64 0, .int .i64 0, .int .i64 0, .int .i64 0, .int .i64 0, .int .i64 0, .slice none 0 0, .slice none 0 0] 33)) := ((Below.refl _ _).alloc (Nat.le_refl _) _).alloc (by simp) _
  have hl := h.lt
  obtain ⟨X0, hX0⟩ : ∃ X0, X0 = (X.alloc (.cells #[.int .i64 0, .int .i64 0, .int .i64 0, .int .i64 0, .int .i64 0, .int .i64 0, .slice none 0 0, .slice none 0 0] 33)).alloc (.cells #[.int .i64 0, .int .i64 0, .int .i64 0, .int .i64 0, .int .i64 0, .int .i64 0, .slice none 0 0, .slice none 0 0] 33) := ⟨_, rfl⟩
  have HB := Lib.hid (show Blk X0 X.heap.size 33 [.int .i64 0, .int .i64 0, .int .i64 0, .int .i64 0, .int .i64 0, .int .i64 0, .slice none 0 0, .slice none 0 0] ∧ Blk X0 (X.heap.size + 1) 33 [.int .i64 0, .int .i64 0, .int .i64 0, .int .i64 0, .int .i64 0, .int .i64 0, .slice none 0 0, .slice none 0 0] by rw [hX0]; exact ⟨hbo, hbt⟩)
  rw [← hX0] at hb0
  have HO0 := Lib.hid (show OnlyR rb X X0 from .of hb0)
  have HR := Lib.hid (And.intro hr (And.intro hg hl))
  have HWD := Lib.hid (rword_any rb st X0 (h.next hb0))
  clear h hr hg hbo hbt hb0
  go_enter Tryz.func49, Tryz.ntmps49
  go_wp2_with fail
  rw [← hX0]
  clear hX0
  refine HWD.out.mono ?_
  rintro e X1 ⟨w, st1, rfl, h1, ho1, hwl, hcase⟩
  have H1 := Lib.hid (And.intro h1 (And.intro (HO0.out.seq ho1) (And.intro (HB.out.1.only ho1 (by omega)) (HB.out.2.only ho1 (by omega)))))
  have HC := Lib.hid hcase
  clear h1 ho1 hcase HB
  go_wp2_with fail
  go_loopw [5, 6] (fun fv iv Y => ∃ (i : Nat) (A : Option Addr), i ≤ 19 ∧ iv = .int .i64 ((i : Int) + 1) ∧ fv = .slice A (actF (kindR actN w i)).length (actF (kindR actN w i)).length ∧ FieldsAt Y A (actF (kindR actN w i)) ∧ RdAt rb st1 Y ∧ OnlyR rb X Y ∧ Blk Y X.heap.size 33 [.int .i64 0, .int .i64 0, .int .i64 0, .int .i64 0, .int .i64 0, .int .i64 0, .slice none 0 0, .slice none 0 0] ∧ Blk Y (X.heap.size + 1) 33 (actCs (kindM (kindR actN w i)))) (fun _ iv _ => 21 - (intOf iv).toNat)
  case atStart => exact ⟨0, none, Nat.zero_le _, rfl, rfl, .inl rfl, H1.out.1, H1.out.2.1, H1.out.2.2.1, H1.out.2.2.2⟩
  case round =>
    obtain ⟨i, A, hi, rfl, rfl, hfa, hrd, hon, hbo, hba⟩ := hrel
    have HI := Lib.hid (And.intro hfa (And.intro hrd (And.intro hon (And.intro hbo hba))))
    have hab := hba.lt
    obtain ⟨kk, hkk⟩ : ∃ kk, kk = kindR actN w i := ⟨_, rfl⟩
    have HKK := Lib.hid hkk
    obtain ⟨m, hm⟩ : ∃ m, m = (actF kk).length := ⟨_, rfl⟩
    have HM := Lib.hid hm
    rw [← hkk, ← hm]
    clear hfa hrd hon hbo hba
    by_cases hlt : i < 19
    · have d1 : decide ((i : Int) + 1 ≤ 19) = true := decide_eq_true (by omega)
      have HFL := Lib.hid (aFields_any wr ((i : Int) + 1))
      clear hkk hm
      go_wp2_with fail
      refine HFL.out.mono ?_
      rintro e Y2 ⟨A2, rfl, hfa2, hw2⟩
      have hb2 : Below wr.heap.size wr Y2 := by
        rcases hw2 with rfl | rfl
        · exact Below.refl _ _
        · exact (Below.refl _ _).alloc (Nat.le_refl _) _
      have HB2 := Lib.hid hb2
      have HFA2 := Lib.hid hfa2
      have HBA := Lib.hid (HI.out.2.2.2.2.only (OnlyR.of (rb := rb) hb2) (by have := HR.out.2.2; omega))
      have HBO := Lib.hid (HI.out.2.2.2.1.only (OnlyR.of (rb := rb) hb2) (by have := HR.out.2.2; omega))
      have hy0 := HBA.out.cell (j := 0) rfl
      have hz0 := HBA.out.free 0
      have hl2 := HBA.out.lt
      have hlen2 : (actF ((i : Int) + 1)).length ≤ 3 := actF_len _
      clear hw2 hb2 hfa2
      by_cases hn : actN ((i : Int) + 1) = w
      · have e1 := str_eq (congrArg bs hn)
        have HN := Lib.hid (show kindR actN w (i + 1) = (i : Int) + 1 by unfold kindR; rw [if_pos hn])
        clear hn
        go_wp2_with fail
        go_roundw
        case rel =>
          refine ⟨i + 1, A2, by omega, by go_num, by rw [HN.out], ?_, ?_, ?_, ?_, ?_⟩
          · rw [HN.out]
            exact fields_set HFA2.out ⟨_, _, _, HBA.out, by decide⟩
          · exact (HI.out.2.1.next HB2.out).set (b := X.heap.size + 1) (by have := HR.out.2.2; omega) 0 _
          · exact only_set (HI.out.2.2.1.seq (.of HB2.out)) (Nat.le_succ _) 0 _
          · exact HBO.out.other (Nat.ne_of_lt (Nat.lt_succ_self _)) _ _
          · rw [HN.out]
            exact HBA.out.set 0 _
        case measure => simp [intOf]; omega
      · have e1 := str_ne (fun q => hn (bs_inj q) : bs (actN ((i : Int) + 1)) ≠ bs w)
        have HN := Lib.hid (show kindR actN w (i + 1) = kk by rw [HKK.out]; show (if actN ((i : Int) + 1) = w then (i : Int) + 1 else kindR actN w i) = kindR actN w i; rw [if_neg hn])
        clear hn
        go_wp2_with fail
        go_roundw
        case rel =>
          refine ⟨i + 1, A, by omega, by go_num, by rw [HN.out, HM.out], ?_, HI.out.2.1.next HB2.out, HI.out.2.2.1.seq (.of HB2.out), HBO.out, ?_⟩
          · rw [HN.out, HKK.out]
            exact HI.out.1.next HB2.out
          · rw [HN.out, HKK.out]
            exact HBA.out
        case measure => simp [intOf]; omega
    · have hi19 : i = 19 := by omega
      have d1 : decide ((i : Int) + 1 ≤ 19) = false := decide_eq_false (by omega)
      have hm3 : m ≤ 3 := by rw [hm]; exact actF_len kk
      have HK19 := Lib.hid (show kk = kindR actN w 19 by rw [HKK.out, hi19])
      have hkr : 0 ≤ kk ∧ kk ≤ 19 := by
        rw [HK19.out]
        exact kindR_range actN w 19
      have HI2 : Hid (FieldsAt wr A (actF kk) ∧ RdAt rb st1 wr ∧ OnlyR rb X wr ∧ Blk wr X.heap.size 33 [.int .i64 0, .int .i64 0, .int .i64 0, .int .i64 0, .int .i64 0, .int .i64 0, .slice none 0 0, .slice none 0 0] ∧ Blk wr (X.heap.size + 1) 33 (actCs (kindM kk))) := Lib.hid (by have h := HI.out; rw [← HKK.out] at h; exact h)
      obtain ⟨fs, hfs⟩ : ∃ fs, fs = actF kk := ⟨_, rfl⟩
      have HFS := Lib.hid hfs
      rw [← hfs] at HI2
      rw [← hfs] at HM
      clear hkk hm hfs HI hi19 hi hlt
      obtain ⟨wo, rfl⟩ : ∃ wo : World, wo = wr := ⟨_, rfl⟩
      go_wp2_with fail
      go_loopw [30] (fun iv Y => ∃ (j : Nat) (x : ActM) (st2 : Option (List Wd)), j ≤ m ∧ iv = .int .i64 j ∧ (Blk Y (X.heap.size + 1) 33 (actCs x) ∧ x.kind = kk ∧ aClr (fs.take j) x.con = kindA kk ∧ Rds (VAs (fs.take j)) (asW (fs.take j)) st1 st2 x.con ∧ ActO Y X.heap.size x ∧ ActBd x) ∧ RdAt rb st2 Y ∧ OnlyR rb X Y ∧ Blk Y X.heap.size 33 [.int .i64 0, .int .i64 0, .int .i64 0, .int .i64 0, .int .i64 0, .int .i64 0, .slice none 0 0, .slice none 0 0] ∧ FieldsAt Y A fs) (fun iv _ => m - (intOf iv).toNat)
      case atStart => exact ⟨0, kindM kk, st1, Nat.zero_le _, rfl, ⟨HI2.out.2.2.2.2, rfl, rfl, rds_as_start _ _, ActO.kind _ _ _, bd_kind (by unfold Is64; omega)⟩, HI2.out.2.1, HI2.out.2.2.1, HI2.out.2.2.2.1, HI2.out.1⟩
      case round =>
        obtain ⟨j, x, st2, hj, rfl, hx, hrd, hon, hbo, hfl⟩ := hrel
        have HX := Lib.hid hx
        have HW := Lib.hid (And.intro hrd (And.intro hon (And.intro hbo hfl)))
        have HRW := Lib.hid (HR.out.1.low hon (Nat.le_of_lt HR.out.2.2) HR.out.2.1)
        clear hx hrd hon hbo hfl
        by_cases hlt2 : j < m
        · obtain ⟨f, hf⟩ : ∃ f, fs[j]? = some f := ⟨fs[j]'(by have := HM.out; omega), by simp⟩
          have hf7 : f < 7 := actF_lt kk f (by rw [← HFS.out]; exact List.mem_of_getElem? hf)
          have hlk : ∀ g ∈ fs.take j, g < 7 := fun g hg => actF_lt kk g (by rw [← HFS.out]; exact List.mem_of_mem_take hg)
          have hnt := not_taken (show fs.Nodup by rw [HFS.out]; exact actF_nodup kk) hf
          obtain ⟨fb, hfA, hfbl, hfc⟩ := HW.out.2.2.2.at hf
          have HRND : Hid (∀ (Y' : World) (x' : ActM) (b : ActC) (st3 : Option (List Wd)), x'.con = aPut b x.con f → x'.kind = x.kind → Rds (VA f) (fun a => aW a f) st2 st3 b → Blk Y' (X.heap.size + 1) 33 (actCs x') → ActO Y' X.heap.size x' → ActBd x' → RdAt rb st3 Y' → OnlyR rb X Y' → Blk Y' X.heap.size 33 [.int .i64 0, .int .i64 0, .int .i64 0, .int .i64 0, .int .i64 0, .int .i64 0, .slice none 0 0, .slice none 0 0] → FieldsAt Y' A fs →
              ∃ (j' : Nat) (x2 : ActM) (st4 : Option (List Wd)), j' ≤ m ∧ Value.int .i64 ((j : Int) + 1) = .int .i64 j' ∧ (Blk Y' (X.heap.size + 1) 33 (actCs x2) ∧ x2.kind = kk ∧ aClr (fs.take j') x2.con = kindA kk ∧ Rds (VAs (fs.take j')) (asW (fs.take j')) st1 st4 x2.con ∧ ActO Y' X.heap.size x2 ∧ ActBd x2) ∧ RdAt rb st4 Y' ∧ OnlyR rb X Y' ∧ Blk Y' X.heap.size 33 [.int .i64 0, .int .i64 0, .int .i64 0, .int .i64 0, .int .i64 0, .int .i64 0, .slice none 0 0, .slice none 0 0] ∧ FieldsAt Y' A fs) := Lib.hid (fun Y' x' b st3 e1 e2 e3 e4 e5 e6 e7 e8 e9 e10 => by
            refine ⟨j + 1, x', st3, by omega, by rw [Int.natCast_add]; rfl, ⟨e4, e2.trans HX.out.2.1, ?_, ?_, e5, e6⟩, e7, e8, e9, e10⟩
            · rw [take_snoc hf, e1]
              exact clr_step hnt hlk hf7 HX.out.2.2.1
            · rw [take_snoc hf, e1]
              exact HX.out.2.2.2.1.step hnt hlk hf7 e3)
          rw [hfA] at HRND ⊢
          have HA8 := Lib.hid hfA
          clear hf hfA hlk hnt
          have hcase : f = 0 ∨ f = 1 ∨ f = 2 ∨ f = 3 ∨ f = 4 ∨ f = 5 ∨ f = 6 := by omega
          rcases hcase with rfl | rfl | rfl | rfl | rfl | rfl | rfl
          · have HCL := Lib.hid (rnum_any rb st2 wr HW.out.1 HRW.out HR.out.2.1)
            go_wp2_with fail
            refine HCL.out.mono ?_
            rintro e Y2 ⟨n2, st3, rfl, h3, ho, h64, hrd⟩
            have HBX := Lib.hid (HX.out.1.only ho (by have := HR.out.2.2; omega))
            have hz := HBX.out.free 1
            have hy := HBX.out.cell (j := 1) rfl
            have hl3 := HBX.out.lt
            have HFIN : Hid (∃ (j' : Nat) (x2 : ActM) (st4 : Option (List Wd)), j' ≤ m ∧ Value.int .i64 ((j : Int) + 1) = .int .i64 j' ∧ (Blk (Y2.setCell ⟨X.heap.size + 1, 1, none⟩ (.int .i64 n2)) (X.heap.size + 1) 33 (actCs x2) ∧ x2.kind = kk ∧ aClr (fs.take j') x2.con = kindA kk ∧ Rds (VAs (fs.take j')) (asW (fs.take j')) st1 st4 x2.con ∧ ActO (Y2.setCell ⟨X.heap.size + 1, 1, none⟩ (.int .i64 n2)) X.heap.size x2 ∧ ActBd x2) ∧ RdAt rb st4 (Y2.setCell ⟨X.heap.size + 1, 1, none⟩ (.int .i64 n2)) ∧ OnlyR rb X (Y2.setCell ⟨X.heap.size + 1, 1, none⟩ (.int .i64 n2)) ∧ Blk (Y2.setCell ⟨X.heap.size + 1, 1, none⟩ (.int .i64 n2)) X.heap.size 33 [.int .i64 0, .int .i64 0, .int .i64 0, .int .i64 0, .int .i64 0, .int .i64 0, .slice none 0 0, .slice none 0 0] ∧ FieldsAt (Y2.setCell ⟨X.heap.size + 1, 1, none⟩ (.int .i64 n2)) (some ⟨fb, 0, none⟩) fs) := Lib.hid (by
              have AA := (HX.out.2.2.2.2.1.only ho HR.out.2.2).blk HBX.out ⟨by decide, by decide⟩ 1 (.int .i64 n2)
              have HSZ := HW.out.2.1.size
              have hfl2 := fields_only HW.out.2.2.2 HW.out.1 ho
              rw [HA8.out] at hfl2
              exact HRND.out _ ({ x with who := n2 }) ({ act0 with who := n2 }) st3 rfl rfl (Rds.of (V := VA 0) (w := fun a => aW a 0) ActC.who (fun _ => Iff.rfl) (fun _ => rfl) (b := { act0 with who := n2 }) hrd) (HBX.out.set 1 _) ⟨AA.srcs, AA.groups⟩ ⟨HX.out.2.2.2.2.2.kind, h64, HX.out.2.2.2.2.2.n, HX.out.2.2.2.2.2.call, HX.out.2.2.2.2.2.other, HX.out.2.2.2.2.2.node, HX.out.2.2.2.2.2.srcs, HX.out.2.2.2.2.2.groups⟩ (h3.set (b := X.heap.size + 1) (by have := HR.out.2.2; omega) 1 _) (only_set (HW.out.2.1.seq ho) (Nat.le_succ _) 1 _) ((HW.out.2.2.1.only ho (by have := HR.out.2.2; omega)).other (Nat.ne_of_lt (Nat.lt_succ_self _)) _ _) (fields_set hfl2 ⟨_, _, _, HBX.out, by decide⟩))
            clear h3 ho h64 hrd
            go_wp2_with fail
            go_roundw
            case rel => exact HFIN.out
            case measure => simp [intOf]; omega
          · have HCL := Lib.hid (rnum_any rb st2 wr HW.out.1 HRW.out HR.out.2.1)
            go_wp2_with fail
            refine HCL.out.mono ?_
            rintro e Y2 ⟨n2, st3, rfl, h3, ho, h64, hrd⟩
            have HBX := Lib.hid (HX.out.1.only ho (by have := HR.out.2.2; omega))
            have hz := HBX.out.free 2
            have hy := HBX.out.cell (j := 2) rfl
            have hl3 := HBX.out.lt
            have HFIN : Hid (∃ (j' : Nat) (x2 : ActM) (st4 : Option (List Wd)), j' ≤ m ∧ Value.int .i64 ((j : Int) + 1) = .int .i64 j' ∧ (Blk (Y2.setCell ⟨X.heap.size + 1, 2, none⟩ (.int .i64 n2)) (X.heap.size + 1) 33 (actCs x2) ∧ x2.kind = kk ∧ aClr (fs.take j') x2.con = kindA kk ∧ Rds (VAs (fs.take j')) (asW (fs.take j')) st1 st4 x2.con ∧ ActO (Y2.setCell ⟨X.heap.size + 1, 2, none⟩ (.int .i64 n2)) X.heap.size x2 ∧ ActBd x2) ∧ RdAt rb st4 (Y2.setCell ⟨X.heap.size + 1, 2, none⟩ (.int .i64 n2)) ∧ OnlyR rb X (Y2.setCell ⟨X.heap.size + 1, 2, none⟩ (.int .i64 n2)) ∧ Blk (Y2.setCell ⟨X.heap.size + 1, 2, none⟩ (.int .i64 n2)) X.heap.size 33 [.int .i64 0, .int .i64 0, .int .i64 0, .int .i64 0, .int .i64 0, .int .i64 0, .slice none 0 0, .slice none 0 0] ∧ FieldsAt (Y2.setCell ⟨X.heap.size + 1, 2, none⟩ (.int .i64 n2)) (some ⟨fb, 0, none⟩) fs) := Lib.hid (by
              have AA := (HX.out.2.2.2.2.1.only ho HR.out.2.2).blk HBX.out ⟨by decide, by decide⟩ 2 (.int .i64 n2)
              have HSZ := HW.out.2.1.size
              have hfl2 := fields_only HW.out.2.2.2 HW.out.1 ho
              rw [HA8.out] at hfl2
              exact HRND.out _ ({ x with n := n2 }) ({ act0 with n := n2 }) st3 rfl rfl (Rds.of (V := VA 1) (w := fun a => aW a 1) ActC.n (fun _ => Iff.rfl) (fun _ => rfl) (b := { act0 with n := n2 }) hrd) (HBX.out.set 2 _) ⟨AA.srcs, AA.groups⟩ ⟨HX.out.2.2.2.2.2.kind, HX.out.2.2.2.2.2.who, h64, HX.out.2.2.2.2.2.call, HX.out.2.2.2.2.2.other, HX.out.2.2.2.2.2.node, HX.out.2.2.2.2.2.srcs, HX.out.2.2.2.2.2.groups⟩ (h3.set (b := X.heap.size + 1) (by have := HR.out.2.2; omega) 2 _) (only_set (HW.out.2.1.seq ho) (Nat.le_succ _) 2 _) ((HW.out.2.2.1.only ho (by have := HR.out.2.2; omega)).other (Nat.ne_of_lt (Nat.lt_succ_self _)) _ _) (fields_set hfl2 ⟨_, _, _, HBX.out, by decide⟩))
            clear h3 ho h64 hrd
            go_wp2_with fail
            go_roundw
            case rel => exact HFIN.out
            case measure => simp [intOf]; omega
          · have HCL := Lib.hid (rnum_any rb st2 wr HW.out.1 HRW.out HR.out.2.1)
            go_wp2_with fail
            refine HCL.out.mono ?_
            rintro e Y2 ⟨n2, st3, rfl, h3, ho, h64, hrd⟩
            have HBX := Lib.hid (HX.out.1.only ho (by have := HR.out.2.2; omega))
            have hz := HBX.out.free 3
            have hy := HBX.out.cell (j := 3) rfl
            have hl3 := HBX.out.lt
            have HFIN : Hid (∃ (j' : Nat) (x2 : ActM) (st4 : Option (List Wd)), j' ≤ m ∧ Value.int .i64 ((j : Int) + 1) = .int .i64 j' ∧ (Blk (Y2.setCell ⟨X.heap.size + 1, 3, none⟩ (.int .i64 n2)) (X.heap.size + 1) 33 (actCs x2) ∧ x2.kind = kk ∧ aClr (fs.take j') x2.con = kindA kk ∧ Rds (VAs (fs.take j')) (asW (fs.take j')) st1 st4 x2.con ∧ ActO (Y2.setCell ⟨X.heap.size + 1, 3, none⟩ (.int .i64 n2)) X.heap.size x2 ∧ ActBd x2) ∧ RdAt rb st4 (Y2.setCell ⟨X.heap.size + 1, 3, none⟩ (.int .i64 n2)) ∧ OnlyR rb X (Y2.setCell ⟨X.heap.size + 1, 3, none⟩ (.int .i64 n2)) ∧ Blk (Y2.setCell ⟨X.heap.size + 1, 3, none⟩ (.int .i64 n2)) X.heap.size 33 [.int .i64 0, .int .i64 0, .int .i64 0, .int .i64 0, .int .i64 0, .int .i64 0, .slice none 0 0, .slice none 0 0] ∧ FieldsAt (Y2.setCell ⟨X.heap.size + 1, 3, none⟩ (.int .i64 n2)) (some ⟨fb, 0, none⟩) fs) := Lib.hid (by
              have AA := (HX.out.2.2.2.2.1.only ho HR.out.2.2).blk HBX.out ⟨by decide, by decide⟩ 3 (.int .i64 n2)
              have HSZ := HW.out.2.1.size
              have hfl2 := fields_only HW.out.2.2.2 HW.out.1 ho
              rw [HA8.out] at hfl2
              exact HRND.out _ ({ x with call := n2 }) ({ act0 with call := n2 }) st3 rfl rfl (Rds.of (V := VA 2) (w := fun a => aW a 2) ActC.call (fun _ => Iff.rfl) (fun _ => rfl) (b := { act0 with call := n2 }) hrd) (HBX.out.set 3 _) ⟨AA.srcs, AA.groups⟩ ⟨HX.out.2.2.2.2.2.kind, HX.out.2.2.2.2.2.who, HX.out.2.2.2.2.2.n, h64, HX.out.2.2.2.2.2.other, HX.out.2.2.2.2.2.node, HX.out.2.2.2.2.2.srcs, HX.out.2.2.2.2.2.groups⟩ (h3.set (b := X.heap.size + 1) (by have := HR.out.2.2; omega) 3 _) (only_set (HW.out.2.1.seq ho) (Nat.le_succ _) 3 _) ((HW.out.2.2.1.only ho (by have := HR.out.2.2; omega)).other (Nat.ne_of_lt (Nat.lt_succ_self _)) _ _) (fields_set hfl2 ⟨_, _, _, HBX.out, by decide⟩))
            clear h3 ho h64 hrd
            go_wp2_with fail
            go_roundw
            case rel => exact HFIN.out
            case measure => simp [intOf]; omega
          · have HCL := Lib.hid (rnum_any rb st2 wr HW.out.1 HRW.out HR.out.2.1)
            go_wp2_with fail
            refine HCL.out.mono ?_
            rintro e Y2 ⟨n2, st3, rfl, h3, ho, h64, hrd⟩
            have HBX := Lib.hid (HX.out.1.only ho (by have := HR.out.2.2; omega))
            have hz := HBX.out.free 4
            have hy := HBX.out.cell (j := 4) rfl
            have hl3 := HBX.out.lt
            have HFIN : Hid (∃ (j' : Nat) (x2 : ActM) (st4 : Option (List Wd)), j' ≤ m ∧ Value.int .i64 ((j : Int) + 1) = .int .i64 j' ∧ (Blk (Y2.setCell ⟨X.heap.size + 1, 4, none⟩ (.int .i64 n2)) (X.heap.size + 1) 33 (actCs x2) ∧ x2.kind = kk ∧ aClr (fs.take j') x2.con = kindA kk ∧ Rds (VAs (fs.take j')) (asW (fs.take j')) st1 st4 x2.con ∧ ActO (Y2.setCell ⟨X.heap.size + 1, 4, none⟩ (.int .i64 n2)) X.heap.size x2 ∧ ActBd x2) ∧ RdAt rb st4 (Y2.setCell ⟨X.heap.size + 1, 4, none⟩ (.int .i64 n2)) ∧ OnlyR rb X (Y2.setCell ⟨X.heap.size + 1, 4, none⟩ (.int .i64 n2)) ∧ Blk (Y2.setCell ⟨X.heap.size + 1, 4, none⟩ (.int .i64 n2)) X.heap.size 33 [.int .i64 0, .int .i64 0, .int .i64 0, .int .i64 0, .int .i64 0, .int .i64 0, .slice none 0 0, .slice none 0 0] ∧ FieldsAt (Y2.setCell ⟨X.heap.size + 1, 4, none⟩ (.int .i64 n2)) (some ⟨fb, 0, none⟩) fs) := Lib.hid (by
              have AA := (HX.out.2.2.2.2.1.only ho HR.out.2.2).blk HBX.out ⟨by decide, by decide⟩ 4 (.int .i64 n2)
              have HSZ := HW.out.2.1.size
              have hfl2 := fields_only HW.out.2.2.2 HW.out.1 ho
              rw [HA8.out] at hfl2
              exact HRND.out _ ({ x with other := n2 }) ({ act0 with other := n2 }) st3 rfl rfl (Rds.of (V := VA 3) (w := fun a => aW a 3) ActC.other (fun _ => Iff.rfl) (fun _ => rfl) (b := { act0 with other := n2 }) hrd) (HBX.out.set 4 _) ⟨AA.srcs, AA.groups⟩ ⟨HX.out.2.2.2.2.2.kind, HX.out.2.2.2.2.2.who, HX.out.2.2.2.2.2.n, HX.out.2.2.2.2.2.call, h64, HX.out.2.2.2.2.2.node, HX.out.2.2.2.2.2.srcs, HX.out.2.2.2.2.2.groups⟩ (h3.set (b := X.heap.size + 1) (by have := HR.out.2.2; omega) 4 _) (only_set (HW.out.2.1.seq ho) (Nat.le_succ _) 4 _) ((HW.out.2.2.1.only ho (by have := HR.out.2.2; omega)).other (Nat.ne_of_lt (Nat.lt_succ_self _)) _ _) (fields_set hfl2 ⟨_, _, _, HBX.out, by decide⟩))
            clear h3 ho h64 hrd
            go_wp2_with fail
            go_roundw
            case rel => exact HFIN.out
            case measure => simp [intOf]; omega
          · have HCL := Lib.hid (rnum_any rb st2 wr HW.out.1 HRW.out HR.out.2.1)
            go_wp2_with fail
            refine HCL.out.mono ?_
            rintro e Y2 ⟨n2, st3, rfl, h3, ho, h64, hrd⟩
            have HBX := Lib.hid (HX.out.1.only ho (by have := HR.out.2.2; omega))
            have hz := HBX.out.free 5
            have hy := HBX.out.cell (j := 5) rfl
            have hl3 := HBX.out.lt
            have HFIN : Hid (∃ (j' : Nat) (x2 : ActM) (st4 : Option (List Wd)), j' ≤ m ∧ Value.int .i64 ((j : Int) + 1) = .int .i64 j' ∧ (Blk (Y2.setCell ⟨X.heap.size + 1, 5, none⟩ (.int .i64 n2)) (X.heap.size + 1) 33 (actCs x2) ∧ x2.kind = kk ∧ aClr (fs.take j') x2.con = kindA kk ∧ Rds (VAs (fs.take j')) (asW (fs.take j')) st1 st4 x2.con ∧ ActO (Y2.setCell ⟨X.heap.size + 1, 5, none⟩ (.int .i64 n2)) X.heap.size x2 ∧ ActBd x2) ∧ RdAt rb st4 (Y2.setCell ⟨X.heap.size + 1, 5, none⟩ (.int .i64 n2)) ∧ OnlyR rb X (Y2.setCell ⟨X.heap.size + 1, 5, none⟩ (.int .i64 n2)) ∧ Blk (Y2.setCell ⟨X.heap.size + 1, 5, none⟩ (.int .i64 n2)) X.heap.size 33 [.int .i64 0, .int .i64 0, .int .i64 0, .int .i64 0, .int .i64 0, .int .i64 0, .slice none 0 0, .slice none 0 0] ∧ FieldsAt (Y2.setCell ⟨X.heap.size + 1, 5, none⟩ (.int .i64 n2)) (some ⟨fb, 0, none⟩) fs) := Lib.hid (by
              have AA := (HX.out.2.2.2.2.1.only ho HR.out.2.2).blk HBX.out ⟨by decide, by decide⟩ 5 (.int .i64 n2)
              have HSZ := HW.out.2.1.size
              have hfl2 := fields_only HW.out.2.2.2 HW.out.1 ho
              rw [HA8.out] at hfl2
              exact HRND.out _ ({ x with node := n2 }) ({ act0 with node := n2 }) st3 rfl rfl (Rds.of (V := VA 4) (w := fun a => aW a 4) ActC.node (fun _ => Iff.rfl) (fun _ => rfl) (b := { act0 with node := n2 }) hrd) (HBX.out.set 5 _) ⟨AA.srcs, AA.groups⟩ ⟨HX.out.2.2.2.2.2.kind, HX.out.2.2.2.2.2.who, HX.out.2.2.2.2.2.n, HX.out.2.2.2.2.2.call, HX.out.2.2.2.2.2.other, h64, HX.out.2.2.2.2.2.srcs, HX.out.2.2.2.2.2.groups⟩ (h3.set (b := X.heap.size + 1) (by have := HR.out.2.2; omega) 5 _) (only_set (HW.out.2.1.seq ho) (Nat.le_succ _) 5 _) ((HW.out.2.2.1.only ho (by have := HR.out.2.2; omega)).other (Nat.ne_of_lt (Nat.lt_succ_self _)) _ _) (fields_set hfl2 ⟨_, _, _, HBX.out, by decide⟩))
            clear h3 ho h64 hrd
            go_wp2_with fail
            go_roundw
            case rel => exact HFIN.out
            case measure => simp [intOf]; omega
          · have HCL := Lib.hid (rsrcs_any rb st2 wr HW.out.1 HRW.out HR.out.2.1)
            go_wp2_with fail
            refine HCL.out.mono ?_
            rintro e Y2 ⟨l2, lA, lc, st3, rfl, h3, ho, hown, hbd, hrd⟩
            have HBX := Lib.hid (HX.out.1.only ho (by have := HR.out.2.2; omega))
            have hz := HBX.out.free 6
            have hy := HBX.out.cell (j := 6) rfl
            have hl3 := HBX.out.lt
            have HFIN : Hid (∃ (j' : Nat) (x2 : ActM) (st4 : Option (List Wd)), j' ≤ m ∧ Value.int .i64 ((j : Int) + 1) = .int .i64 j' ∧ (Blk (Y2.setCell ⟨X.heap.size + 1, 6, none⟩ (.slice lA l2.length lc)) (X.heap.size + 1) 33 (actCs x2) ∧ x2.kind = kk ∧ aClr (fs.take j') x2.con = kindA kk ∧ Rds (VAs (fs.take j')) (asW (fs.take j')) st1 st4 x2.con ∧ ActO (Y2.setCell ⟨X.heap.size + 1, 6, none⟩ (.slice lA l2.length lc)) X.heap.size x2 ∧ ActBd x2) ∧ RdAt rb st4 (Y2.setCell ⟨X.heap.size + 1, 6, none⟩ (.slice lA l2.length lc)) ∧ OnlyR rb X (Y2.setCell ⟨X.heap.size + 1, 6, none⟩ (.slice lA l2.length lc)) ∧ Blk (Y2.setCell ⟨X.heap.size + 1, 6, none⟩ (.slice lA l2.length lc)) X.heap.size 33 [.int .i64 0, .int .i64 0, .int .i64 0, .int .i64 0, .int .i64 0, .int .i64 0, .slice none 0 0, .slice none 0 0] ∧ FieldsAt (Y2.setCell ⟨X.heap.size + 1, 6, none⟩ (.slice lA l2.length lc)) (some ⟨fb, 0, none⟩) fs) := Lib.hid (by
              have AA := (HX.out.2.2.2.2.1.only ho HR.out.2.2).blk HBX.out ⟨by decide, by decide⟩ 6 (.slice lA l2.length lc)
              have HSZ := HW.out.2.1.size
              have hfl2 := fields_only HW.out.2.2.2 HW.out.1 ho
              rw [HA8.out] at hfl2
              exact HRND.out _ ({ x with sA := lA, sc := lc, srcs := l2 }) ({ act0 with srcs := l2.map SrcM.con }) st3 rfl rfl (Rds.of (V := VA 5) (w := fun a => aW a 5) ActC.srcs (fun _ => Iff.rfl) (fun _ => rfl) (b := { act0 with srcs := l2.map SrcM.con }) hrd) (HBX.out.set 6 _) ⟨((hown.base HSZ).blk HBX.out ⟨by decide, by decide⟩ 6 _), AA.groups⟩ ⟨HX.out.2.2.2.2.2.kind, HX.out.2.2.2.2.2.who, HX.out.2.2.2.2.2.n, HX.out.2.2.2.2.2.call, HX.out.2.2.2.2.2.other, HX.out.2.2.2.2.2.node, hbd, HX.out.2.2.2.2.2.groups⟩ (h3.set (b := X.heap.size + 1) (by have := HR.out.2.2; omega) 6 _) (only_set (HW.out.2.1.seq ho) (Nat.le_succ _) 6 _) ((HW.out.2.2.1.only ho (by have := HR.out.2.2; omega)).other (Nat.ne_of_lt (Nat.lt_succ_self _)) _ _) (fields_set hfl2 ⟨_, _, _, HBX.out, by decide⟩))
            clear h3 ho hown hbd hrd
            go_wp2_with fail
            go_roundw
            case rel => exact HFIN.out
            case measure => simp [intOf]; omega
          · have HCL := Lib.hid (rlist_any rb st2 wr HW.out.1 HRW.out HR.out.2.1)
            go_wp2_with fail
            refine HCL.out.mono ?_
            rintro e Y2 ⟨l2, lA, lc, st3, rfl, h3, ho, hown, hbd, hrd⟩
            have HBX := Lib.hid (HX.out.1.only ho (by have := HR.out.2.2; omega))
            have hz := HBX.out.free 7
            have hy := HBX.out.cell (j := 7) rfl
            have hl3 := HBX.out.lt
            have HFIN : Hid (∃ (j' : Nat) (x2 : ActM) (st4 : Option (List Wd)), j' ≤ m ∧ Value.int .i64 ((j : Int) + 1) = .int .i64 j' ∧ (Blk (Y2.setCell ⟨X.heap.size + 1, 7, none⟩ (.slice lA l2.length lc)) (X.heap.size + 1) 33 (actCs x2) ∧ x2.kind = kk ∧ aClr (fs.take j') x2.con = kindA kk ∧ Rds (VAs (fs.take j')) (asW (fs.take j')) st1 st4 x2.con ∧ ActO (Y2.setCell ⟨X.heap.size + 1, 7, none⟩ (.slice lA l2.length lc)) X.heap.size x2 ∧ ActBd x2) ∧ RdAt rb st4 (Y2.setCell ⟨X.heap.size + 1, 7, none⟩ (.slice lA l2.length lc)) ∧ OnlyR rb X (Y2.setCell ⟨X.heap.size + 1, 7, none⟩ (.slice lA l2.length lc)) ∧ Blk (Y2.setCell ⟨X.heap.size + 1, 7, none⟩ (.slice lA l2.length lc)) X.heap.size 33 [.int .i64 0, .int .i64 0, .int .i64 0, .int .i64 0, .int .i64 0, .int .i64 0, .slice none 0 0, .slice none 0 0] ∧ FieldsAt (Y2.setCell ⟨X.heap.size + 1, 7, none⟩ (.slice lA l2.length lc)) (some ⟨fb, 0, none⟩) fs) := Lib.hid (by
              have AA := (HX.out.2.2.2.2.1.only ho HR.out.2.2).blk HBX.out ⟨by decide, by decide⟩ 7 (.slice lA l2.length lc)
              have HSZ := HW.out.2.1.size
              have hfl2 := fields_only HW.out.2.2.2 HW.out.1 ho
              rw [HA8.out] at hfl2
              exact HRND.out _ ({ x with gA := lA, gc := lc, groups := l2 }) ({ act0 with groups := l2 }) st3 rfl rfl (Rds.of (V := VA 6) (w := fun a => aW a 6) ActC.groups (fun _ => Iff.rfl) (fun _ => rfl) (b := { act0 with groups := l2 }) hrd) (HBX.out.set 7 _) ⟨AA.srcs, own_blk (hown.base_le HSZ) HBX.out (by decide) 7 _⟩ ⟨HX.out.2.2.2.2.2.kind, HX.out.2.2.2.2.2.who, HX.out.2.2.2.2.2.n, HX.out.2.2.2.2.2.call, HX.out.2.2.2.2.2.other, HX.out.2.2.2.2.2.node, HX.out.2.2.2.2.2.srcs, hbd⟩ (h3.set (b := X.heap.size + 1) (by have := HR.out.2.2; omega) 7 _) (only_set (HW.out.2.1.seq ho) (Nat.le_succ _) 7 _) ((HW.out.2.2.1.only ho (by have := HR.out.2.2; omega)).other (Nat.ne_of_lt (Nat.lt_succ_self _)) _ _) (fields_set hfl2 ⟨_, _, _, HBX.out, by decide⟩))
            clear h3 ho hown hbd hrd
            go_wp2_with fail
            go_roundw
            case rel => exact HFIN.out
            case measure => simp [intOf]; omega
        · obtain rfl : j = m := by omega
          have e : fs.take j = fs := List.take_of_length_le (by have := HM.out; omega)
          have HRA : Hid (RdA st st2 x.con) := Lib.hid (by
            have hk : x.con.kind = kk := HX.out.2.1
            refine rda_of HC.out (hk.trans HK19.out) ?_ ?_
            · have h := HX.out.2.2.1
              rw [e, HFS.out] at h
              rw [hk]
              exact h
            · have h := HX.out.2.2.2.1
              rw [e, HFS.out] at h
              rw [hk]
              exact h)
          have HMON : Hid (st = none → st2 = none) := Lib.hid (fun q => by
            have q1 : st1 = none := by
              rcases HC.out with ⟨r, e1, _⟩ | ⟨_, e2, _⟩
              · rw [q] at e1
                cases e1
              · exact e2
            rcases HX.out.2.2.2.1 with ⟨ws, r, e1, _⟩ | ⟨e1, _⟩
            · rw [q1] at e1
              cases e1
            · exact e1)
          have w0 := HX.out.1.cell (j := 0) rfl
          have o0 := HW.out.2.2.1.cell (j := 0) rfl
          have f0 := HW.out.2.2.1.free 0
          have w1 := HX.out.1.cell (j := 1) rfl
          have o1 := HW.out.2.2.1.cell (j := 1) rfl
          have f1 := HW.out.2.2.1.free 1
          have w2 := HX.out.1.cell (j := 2) rfl
          have o2 := HW.out.2.2.1.cell (j := 2) rfl
          have f2 := HW.out.2.2.1.free 2
          have w3 := HX.out.1.cell (j := 3) rfl
          have o3 := HW.out.2.2.1.cell (j := 3) rfl
          have f3 := HW.out.2.2.1.free 3
          have w4 := HX.out.1.cell (j := 4) rfl
          have o4 := HW.out.2.2.1.cell (j := 4) rfl
          have f4 := HW.out.2.2.1.free 4
          have w5 := HX.out.1.cell (j := 5) rfl
          have o5 := HW.out.2.2.1.cell (j := 5) rfl
          have f5 := HW.out.2.2.1.free 5
          have w6 := HX.out.1.cell (j := 6) rfl
          have o6 := HW.out.2.2.1.cell (j := 6) rfl
          have f6 := HW.out.2.2.1.free 6
          have w7 := HX.out.1.cell (j := 7) rfl
          have o7 := HW.out.2.2.1.cell (j := 7) rfl
          have f7 := HW.out.2.2.1.free 7
          have hne1 : ¬ X.heap.size = X.heap.size + 1 := by omega
          have hlo := HW.out.2.2.1.lt
          have hla := HX.out.1.lt
          clear e
          go_wp2_with fail
          refine bodyPost_ret (v := actV x) (by simp [results, Tryz.results49, go_sem, o0, o1, o2, o3, o4, o5, o6, o7, actV]) rfl ?_
          exact ⟨x, st2, rfl, ((((((((HW.out.1.set (b := X.heap.size) (by have := HR.out.2.2; omega) 0 _).set (b := X.heap.size) (by have := HR.out.2.2; omega) 1 _).set (b := X.heap.size) (by have := HR.out.2.2; omega) 2 _).set (b := X.heap.size) (by have := HR.out.2.2; omega) 3 _).set (b := X.heap.size) (by have := HR.out.2.2; omega) 4 _).set (b := X.heap.size) (by have := HR.out.2.2; omega) 5 _).set (b := X.heap.size) (by have := HR.out.2.2; omega) 6 _).set (b := X.heap.size) (by have := HR.out.2.2; omega) 7 _), (only_set (only_set (only_set (only_set (only_set (only_set (only_set (only_set HW.out.2.1 (Nat.le_refl _) 0 _) (Nat.le_refl _) 1 _) (Nat.le_refl _) 2 _) (Nat.le_refl _) 3 _) (Nat.le_refl _) 4 _) (Nat.le_refl _) 5 _) (Nat.le_refl _) 6 _) (Nat.le_refl _) 7 _), ((((((((HX.out.2.2.2.2.1.blk HW.out.2.2.1 ⟨by decide, by decide⟩ 0 _).blk (Blk.set HW.out.2.2.1 0 (.int .i64 x.kind)) ⟨by decide, by decide⟩ 1 _).blk (Blk.set (Blk.set HW.out.2.2.1 0 (.int .i64 x.kind)) 1 (.int .i64 x.who)) ⟨by decide, by decide⟩ 2 _).blk (Blk.set (Blk.set (Blk.set HW.out.2.2.1 0 (.int .i64 x.kind)) 1 (.int .i64 x.who)) 2 (.int .i64 x.n)) ⟨by decide, by decide⟩ 3 _).blk (Blk.set (Blk.set (Blk.set (Blk.set HW.out.2.2.1 0 (.int .i64 x.kind)) 1 (.int .i64 x.who)) 2 (.int .i64 x.n)) 3 (.int .i64 x.call)) ⟨by decide, by decide⟩ 4 _).blk (Blk.set (Blk.set (Blk.set (Blk.set (Blk.set HW.out.2.2.1 0 (.int .i64 x.kind)) 1 (.int .i64 x.who)) 2 (.int .i64 x.n)) 3 (.int .i64 x.call)) 4 (.int .i64 x.other)) ⟨by decide, by decide⟩ 5 _).blk (Blk.set (Blk.set (Blk.set (Blk.set (Blk.set (Blk.set HW.out.2.2.1 0 (.int .i64 x.kind)) 1 (.int .i64 x.who)) 2 (.int .i64 x.n)) 3 (.int .i64 x.call)) 4 (.int .i64 x.other)) 5 (.int .i64 x.node)) ⟨by decide, by decide⟩ 6 _).blk (Blk.set (Blk.set (Blk.set (Blk.set (Blk.set (Blk.set (Blk.set HW.out.2.2.1 0 (.int .i64 x.kind)) 1 (.int .i64 x.who)) 2 (.int .i64 x.n)) 3 (.int .i64 x.call)) 4 (.int .i64 x.other)) 5 (.int .i64 x.node)) 6 (.slice x.sA x.srcs.length x.sc)) ⟨by decide, by decide⟩ 7 _), HX.out.2.2.2.2.2, HRA.out, HMON.out⟩
end Go.Proofs.YtakdkiggaalimaaGreatDoor
