/-
  The lines of a configuration: what they make of the default one; Parse at its text.
-/
import Derived.Test.YtloacoalmfaceaaGreatDoorPlt6
import Derived.Test.YtloacoalmfaceaaGreatDoorAwk6
namespace Go.Proofs.YtloacoalmfaceaaGreatDoor
open Go.RowKit Go.Maps Go.Shelf

def planL (p : Plan) : Ln := .plan p.code p.urg p.kinds
def parLn (ps : List Int) : Nat → List Ln
  | 0 => []
  | k + 1 => parLn ps k ++ (match ps[k]? with
    | some z => if defPs[k]? = some z then [] else [.par k z]
    | none => [])
def lnsC (x : Cfg) : List Ln := [.cen x.cen] ++ (x.ds.map .node ++ (x.es.map .edge ++ (x.us.map .unt ++ (x.pl.map planL ++ parLn x.ps 10))))
theorem wf_i64_of {z : Int} (h0 : -9223372036854775808 ≤ z) (h1 : z ≤ 9223372036854775807) : (Lit.int .i64 z).wf = true := WalkArith.wf_i64 ⟨h0, h1⟩
theorem parLn_ws (ps : List Int) : ∀ k, (parLn ps k).map (fun l => l.lst.ws) = parLs ps k
  | 0 => rfl
  | k + 1 => by
    rw [parLn, parLs, List.map_append, parLn_ws ps k]
    cases ps[k]? with
    | none => rfl
    | some z =>
      dsimp only
      split <;> rfl
theorem lns_ws (x : Cfg) : (lnsC x).map (fun l => l.lst.ws) = linesC x := by
  unfold lnsC linesC
  simp only [List.map_append, List.map_map, parLn_ws]
  rfl
theorem lns_rest (x : Cfg) : restT ((lnsC x).map Ln.lst) 0 = textC x := by
  unfold restT textC
  rw [List.drop_zero, List.map_map, ← lns_ws, List.map_map]
  rfl
theorem kfold_app (A B : List Ln) (k : Kon) : kfold (A ++ B) k = kfold B (kfold A k) := List.foldl_append ..
theorem kfold_node : ∀ (zs : List Int) (k : Kon), kfold (zs.map .node) k = { k with ds := k.ds ++ zs }
  | [], k => by simp [kfold]
  | z :: r, k => by
    show kfold (r.map .node) ((Ln.node z).f k) = _
    rw [kfold_node r]
    simp [Ln.f]
theorem kfold_edge : ∀ (zs : List T3) (k : Kon), kfold (zs.map .edge) k = { k with es := k.es ++ zs }
  | [], k => by simp [kfold]
  | z :: r, k => by
    show kfold (r.map .edge) ((Ln.edge z).f k) = _
    rw [kfold_edge r]
    simp [Ln.f]
theorem kfold_unt : ∀ (zs : List T3) (k : Kon), kfold (zs.map .unt) k = { k with us := k.us ++ zs }
  | [], k => by simp [kfold]
  | z :: r, k => by
    show kfold (r.map .unt) ((Ln.unt z).f k) = _
    rw [kfold_unt r]
    simp [Ln.f]
theorem kfold_plan : ∀ (zs : List Plan) (k : Kon), kfold (zs.map planL) k = { k with pl := k.pl ++ zs.map (fun p => (p.code, p.urg, p.kinds)) }
  | [], k => by simp [kfold]
  | z :: r, k => by
    show kfold (r.map planL) ((planL z).f k) = _
    rw [kfold_plan r]
    simp [Ln.f, planL]
theorem kfold_par (ps : List Int) (hps : ps.length = 10) (k : Kon) (hk : k.ps = defPs) : ∀ n, n ≤ 10 → kfold (parLn ps n) k = { k with ps := ps.take n ++ defPs.drop n }
  | 0, _ => by
    show k = _
    rw [List.take_zero, List.drop_zero, List.nil_append, ← hk]
  | n + 1, hn => by
    have ih := kfold_par ps hps k hk n (by omega)
    obtain ⟨z, hz⟩ : ∃ z, ps[n]? = some z := ⟨ps[n]'(by omega), by simp⟩
    have hd : n < defPs.length := by show n < 10; omega
    have e1 : defPs.drop n = defPs[n] :: defPs.drop (n + 1) := List.drop_eq_getElem_cons hd
    have e2 : ps.take (n + 1) = ps.take n ++ [z] := take_snoc' hz
    have hl : (ps.take n).length = n := by simp; omega
    rw [parLn, kfold_app, ih, hz]
    dsimp only
    split
    · rename_i h
      have e3 : defPs[n] = z := by
        have := List.getElem?_eq_getElem hd
        rw [h] at this
        exact (Option.some.inj this).symm
      show ({ k with ps := ps.take n ++ defPs.drop n } : Kon) = _
      rw [e1, e2, e3, List.append_assoc]
      rfl
    · show ({ k with ps := (ps.take n ++ defPs.drop n).set n z } : Kon) = _
      rw [e1, e2, List.set_append_right _ _ (by omega), hl, Nat.sub_self, List.set_cons_zero, List.append_assoc]
      rfl
theorem lns_k (x : Cfg) (h10 : x.ps.length = 10) : kfold (lnsC x) (kOf defCfg) = kOf x := by
  unfold lnsC
  rw [kfold_app, kfold_app, kfold_app, kfold_app, kfold_app]
  have e0 : kfold [.cen x.cen] (kOf defCfg) = ⟨x.cen, [], [], [], [], defPs⟩ := rfl
  rw [e0, kfold_node, kfold_edge, kfold_unt, kfold_plan, kfold_par x.ps h10 _ rfl 10 (Nat.le_refl _)]
  have e1 : x.ps.take 10 ++ defPs.drop 10 = x.ps := by
    rw [List.take_of_length_le (by omega)]
    show x.ps ++ [] = _
    rw [List.append_nil]
  show (⟨x.cen, [] ++ x.ds, [] ++ x.es, [] ++ x.us, [] ++ x.pl.map (fun p => (p.code, p.urg, p.kinds)), x.ps.take 10 ++ defPs.drop 10⟩ : Kon) = _
  rw [e1]
  rfl
/-- the lines stand in their order behind a line of place q. -/
def ordB : Nat → List Ln → Prop
  | _, [] => True
  | q, l :: r => inP l.lst.pl q = true ∧ ordB l.lst.pl r
def lastP (q : Nat) (A : List Ln) : Nat := A.foldl (fun _ l => l.lst.pl) q
theorem ordB_app : ∀ (A B : List Ln) (q : Nat), ordB q A → ordB (lastP q A) B → ordB q (A ++ B)
  | [], _, _, _, h => h
  | l :: r, B, _, h1, h2 => ⟨h1.1, ordB_app r B l.lst.pl h1.2 h2⟩
def prevQ (A : List Ln) (q : Nat) : Nat → Nat
  | 0 => q
  | j + 1 => ((A[j]?).map (fun l => l.lst.pl)).getD 0
theorem ordB_at : ∀ (A : List Ln) (q : Nat), ordB q A → ∀ (i : Nat) (l : Ln), A[i]? = some l → inP l.lst.pl (prevQ A q i) = true
  | [], _, _, i, l, h => by simp at h
  | a :: r, _, h, 0, l, hl => by
    have e : a = l := by simpa using hl
    rw [← e]
    exact h.1
  | a :: r, _, h, 1, l, hl => ordB_at r a.lst.pl h.2 0 l hl
  | a :: r, _, h, i + 2, l, hl => ordB_at r a.lst.pl h.2 (i + 1) l hl
theorem lns_prev (A : List Ln) (h : ordB 0 A) : ∀ i l, A[i]? = some l → inP l.lst.pl (prevOf A i) = true := fun i l hl => by
  have := ordB_at A 0 h i l hl
  cases i with
  | zero => exact this
  | succ j => exact this
theorem ordB_seg {α : Type} (f : α → Ln) {p : Nat} (hp : 2 ≤ p ∧ p ≤ 5) (hf : ∀ x, (f x).lst.pl = p) : ∀ (xs : List α) (q : Nat), 1 ≤ q → q ≤ p → ordB q (xs.map f) ∧ 1 ≤ lastP q (xs.map f) ∧ lastP q (xs.map f) ≤ p
  | [], _, h1, h2 => ⟨trivial, h1, h2⟩
  | x :: r, q, h1, h2 => by
    obtain ⟨i1, i2, i3⟩ := ordB_seg f hp hf r p (by omega) (Nat.le_refl _)
    have e : (f x).lst.pl = p := hf x
    refine ⟨⟨?_, ?_⟩, ?_, ?_⟩
    · rw [e]
      unfold inP
      rw [if_neg (by omega)]
      simp
      omega
    · rw [e]; exact i1
    · show 1 ≤ lastP (f x).lst.pl (r.map f)
      rw [e]; exact i2
    · show lastP (f x).lst.pl (r.map f) ≤ p
      rw [e]; exact i3
theorem lastP_app (A B : List Ln) (q : Nat) : lastP q (A ++ B) = lastP (lastP q A) B := List.foldl_append ..
theorem ordB_par (ps : List Int) (q : Nat) (h1 : 1 ≤ q) (h5 : q ≤ 5) : ∀ n, ordB q (parLn ps n) ∧ 1 ≤ lastP q (parLn ps n) ∧ lastP q (parLn ps n) ≤ 5 + n
  | 0 => ⟨trivial, h1, h5⟩
  | n + 1 => by
    obtain ⟨i1, i2, i3⟩ := ordB_par ps q h1 h5 n
    have step : ∀ l : List Ln, (l = [] ∨ ∃ z, l = [.par n z]) → ordB q (parLn ps n ++ l) ∧ 1 ≤ lastP q (parLn ps n ++ l) ∧ lastP q (parLn ps n ++ l) ≤ 5 + (n + 1) := fun l hl => by
      rcases hl with rfl | ⟨z, rfl⟩
      · rw [List.append_nil]
        exact ⟨i1, i2, by omega⟩
      · refine ⟨ordB_app _ _ _ i1 ⟨?_, trivial⟩, ?_, ?_⟩
        · show inP (6 + n) _ = true
          unfold inP
          rw [if_neg (by omega)]
          simp
          omega
        · rw [lastP_app]
          show 1 ≤ 6 + n
          omega
        · rw [lastP_app]
          show 6 + n ≤ 5 + (n + 1)
          omega
    rw [parLn]
    refine step _ ?_
    cases ps[n]? with
    | none => exact .inl rfl
    | some z =>
      dsimp only
      split
      · exact .inl rfl
      · exact .inr ⟨z, rfl⟩
theorem lns_ord (x : Cfg) : ordB 0 (lnsC x) := by
  unfold lnsC
  refine ordB_app _ _ _ ⟨rfl, trivial⟩ ?_
  show ordB 1 _
  obtain ⟨a1, a2, a3⟩ := ordB_seg Ln.node (p := 2) (by omega) (fun _ => rfl) x.ds 1 (by omega) (by omega)
  refine ordB_app _ _ _ a1 ?_
  obtain ⟨b1, b2, b3⟩ := ordB_seg Ln.edge (p := 3) (by omega) (fun _ => rfl) x.es _ a2 (by omega)
  refine ordB_app _ _ _ b1 ?_
  obtain ⟨c1, c2, c3⟩ := ordB_seg Ln.unt (p := 4) (by omega) (fun _ => rfl) x.us _ b2 (by omega)
  refine ordB_app _ _ _ c1 ?_
  obtain ⟨d1, d2, d3⟩ := ordB_seg planL (p := 5) (by omega) (fun _ => rfl) x.pl _ c2 (by omega)
  refine ordB_app _ _ _ d1 ?_
  exact (ordB_par x.ps _ d2 d3 10).1
/-- lines that can be read. -/
def Ln.Good : Ln → Prop
  | .edge t => Num18 t.a ∧ Num18 t.b ∧ (t.c = 4611686018427387904 ∨ Num18 t.c)
  | .unt t => KindOk t.a ∧ Num18 t.b ∧ Num18 t.c
  | .plan code urg kinds => CodeOk code ∧ Num18 urg ∧ (∀ k ∈ kinds, KindOk k) ∧ 1 ≤ kinds.length ∧ kinds.length ≤ 1000
  | l => l.Val
theorem good_ok : ∀ {l : Ln}, l.Good → ∀ cb c, l.Pre c → LineOk cb l.lst c
  | .cen z, h, cb, c, hp => val_ok (l := .cen z) h cb c hp
  | .node z, h, cb, c, hp => val_ok (l := .node z) h cb c hp
  | .par k z, h, cb, c, hp => val_ok (l := .par k z) h cb c hp
  | .edge t, h, cb, c, hp => fun W hw hr => line_edge cb c W hw hr t h.1 h.2.1 h.2.2 hp
  | .unt t, h, cb, c, hp => fun W hw hr => line_unt cb c W hw hr t h.1 h.2.1 h.2.2 hp
  | .plan code urg kinds, h, cb, c, hp => fun W hw hr => line_plan cb c W hw hr code urg kinds h.1 h.2.1 h.2.2.1 kinds.length rfl h.2.2.2.1 h.2.2.2.2 hp
theorem good_nl : ∀ {l : Ln}, l.Good → (10 : UInt8) ∉ Lib.join l.lst.ws [32]
  | .cen z, h => val_nl (l := .cen z) h
  | .node z, h => val_nl (l := .node z) h
  | .par k z, h => val_nl (l := .par k z) h
  | .edge t, _ => nl_join (by
    intro x hx
    simp only [Ln.lst, edgeW, List.mem_cons, List.mem_nil_iff, or_false] at hx
    rcases hx with rfl | rfl | rfl | rfl
    · decide
    · exact nl_dec _
    · exact nl_dec _
    · exact (time_blank _).2)
  | .unt t, _ => nl_join (by
    intro x hx
    simp only [Ln.lst, unitW, List.mem_cons, List.mem_nil_iff, or_false] at hx
    rcases hx with rfl | rfl | rfl | rfl
    · decide
    · exact (kind_blank _).2
    · exact nl_dec _
    · exact nl_dec _)
  | .plan code urg kinds, h => nl_join (by
    intro x hx
    simp only [Ln.lst, planWs, List.mem_cons, List.mem_map] at hx
    rcases hx with rfl | rfl | rfl | ⟨k, _, rfl⟩
    · decide
    · intro hm
      have := (h.1.2 _ hm).1
      have e : (10 : UInt8).toNat = 10 := rfl
      omega
    · exact nl_dec _
    · exact (kind_blank _).2)
theorem parLn_good {x : Cfg} (h : Fine x) : ∀ k, k ≤ 10 → (parLn x.ps k).length ≤ k ∧ ∀ l ∈ parLn x.ps k, l.Good
  | 0, _ => ⟨Nat.le_refl _, fun l hl => by cases hl⟩
  | k + 1, hk => by
    obtain ⟨h1, h2⟩ := parLn_good h k (by omega)
    rw [parLn]
    cases hz : x.ps[k]? with
    | none => simp; exact ⟨by omega, h2⟩
    | some z =>
      have hzr := h.par (by omega) hz
      dsimp only
      split
      · simp; exact ⟨by omega, h2⟩
      · refine ⟨by simp; omega, fun l hl => ?_⟩
        rcases List.mem_append.1 hl with hl | hl
        · exact h2 l hl
        · rw [List.mem_singleton.1 hl]
          exact ⟨by omega, by omega, by omega⟩
theorem lns_good {x : Cfg} (h : Fine x) (hs : Short x) : (lnsC x).length ≤ 1000 ∧ ∀ l ∈ lnsC x, l.Good := by
  obtain ⟨s1, s2, s3, s4⟩ := hs
  obtain ⟨p1, p2⟩ := parLn_good h 10 (Nat.le_refl _)
  refine ⟨by simp [lnsC]; omega, fun l hl => ?_⟩
  simp only [lnsC, List.mem_cons, List.mem_append, List.mem_map, List.mem_nil_iff, or_false] at hl
  have hcn := h.cen
  have hdl := h.dl
  rcases hl with rfl | ⟨d, hd, rfl⟩ | ⟨e, he, rfl⟩ | ⟨u, hu, rfl⟩ | ⟨p, hp, rfl⟩ | hl
  · exact ⟨by omega, by omega⟩
  · have h1 := h.ds d hd
    unfold Idx at h1
    exact ⟨by omega, by omega⟩
  · have h1 := h.es e he
    unfold EdgeOk Idx at h1
    refine ⟨⟨by omega, by omega⟩, ⟨by omega, by omega⟩, ?_⟩
    rcases h1.2.2 with q | q
    · exact .inr ⟨by omega, by omega⟩
    · exact .inl q
  · have h1 := h.us u hu
    unfold UnitOk Idx at h1
    exact ⟨h1.1, ⟨by omega, by omega⟩, ⟨by omega, by omega⟩⟩
  · obtain ⟨k, hk⟩ := List.getElem?_of_mem hp
    have h1 := h.plan hk
    obtain ⟨g1, g2, g3, g4⟩ := h1
    exact ⟨g1, ⟨by omega, by omega⟩, g4, by omega, by omega⟩
  · exact p2 l hl
theorem tri_mem {c x : Cfg} (h : kOf c = kOf x) {p : Plan} (hp : p ∈ c.pl) : ∃ q ∈ x.pl, q.code = p.code ∧ q.urg = p.urg ∧ q.kinds = p.kinds := by
  have e : c.pl.map (fun p => (p.code, p.urg, p.kinds)) = x.pl.map (fun p => (p.code, p.urg, p.kinds)) := congrArg Kon.pl h
  have hm : (p.code, p.urg, p.kinds) ∈ x.pl.map (fun p => (p.code, p.urg, p.kinds)) := by rw [← e]; exact List.mem_map.2 ⟨p, hp, rfl⟩
  obtain ⟨q, hq, e2⟩ := List.mem_map.1 hm
  injection e2 with e3 e4
  injection e4 with e5 e6
  exact ⟨q, hq, e3, e5, e6⟩
theorem tri_at {c x : Cfg} (h : kOf c = kOf x) {i : Nat} {p : Plan} (hp : c.pl[i]? = some p) : ∃ q, x.pl[i]? = some q ∧ q.code = p.code ∧ q.urg = p.urg ∧ q.kinds = p.kinds := by
  have e : c.pl.map (fun p => (p.code, p.urg, p.kinds)) = x.pl.map (fun p => (p.code, p.urg, p.kinds)) := congrArg Kon.pl h
  have e1 : (c.pl.map (fun p => (p.code, p.urg, p.kinds)))[i]? = some (p.code, p.urg, p.kinds) := by rw [List.getElem?_map, hp]; rfl
  rw [e, List.getElem?_map] at e1
  obtain ⟨q, hq, e2⟩ := Option.map_eq_some_iff.1 e1
  injection e2 with e3 e4
  injection e4 with e5 e6
  exact ⟨q, hq, e3, e5, e6⟩
theorem k_len {c x : Cfg} (h : kOf c = kOf x) : c.pl.length = x.pl.length := by
  have e : c.pl.map (fun p => (p.code, p.urg, p.kinds)) = x.pl.map (fun p => (p.code, p.urg, p.kinds)) := congrArg Kon.pl h
  have := congrArg List.length e
  simpa using this
theorem k_fine {c x : Cfg} (h : kOf c = kOf x) (hf : Fine x) (he : x.es.length ≤ 16384) (hu : x.us.length ≤ 256) : problem c = 0 := by
  have e1 : c.cen = x.cen := congrArg Kon.cen h
  have e2 : c.ds = x.ds := congrArg Kon.ds h
  have e3 : c.es = x.es := congrArg Kon.es h
  have e4 : c.us = x.us := congrArg Kon.us h
  have e6 : c.ps = x.ps := congrArg Kon.ps h
  refine prob_0 (by rw [e1]; exact hf.cen) (by rw [e2]; exact hf.dl) (by rw [e1, e2]; exact hf.ds) (by rw [e2, e3]; exact ⟨hf.es, he⟩) (by rw [e1, e2, e4]; exact ⟨hf.us, hu⟩) ⟨by rw [k_len h]; exact hf.pl.1, fun i p _ hp => ?_⟩ (by rw [e6]; exact hf.ps)
  obtain ⟨q, hq, q1, q2, q3⟩ := tri_at h hp
  obtain ⟨g1, g2⟩ := hf.pl.2 i q (List.getElem?_eq_some_iff.1 hq).1 hq
  refine ⟨?_, fun j r hj hr ht => ?_⟩
  · unfold PlanOk at g1 ⊢
    rw [q1, q2, q3] at g1
    exact g1
  · obtain ⟨s, hs, s1, s2, _⟩ := tri_at h hr
    refine g2 j s hj hs ⟨?_, ?_⟩
    · rw [s1, q1]; exact ht.1
    · rw [s2, q2]; exact ht.2
theorem k_text {c x : Cfg} (h : kOf c = kOf x) : textC c = textC x := by
  have e1 : c.cen = x.cen := congrArg Kon.cen h
  have e2 : c.ds = x.ds := congrArg Kon.ds h
  have e3 : c.es = x.es := congrArg Kon.es h
  have e4 : c.us = x.us := congrArg Kon.us h
  have e6 : c.ps = x.ps := congrArg Kon.ps h
  have e5 : c.pl.map planW = x.pl.map planW := by
    have e : c.pl.map (fun p => (p.code, p.urg, p.kinds)) = x.pl.map (fun p => (p.code, p.urg, p.kinds)) := congrArg Kon.pl h
    have := congrArg (List.map (fun t : ByteArray × Int × List Int => planWs t.1 t.2.1 t.2.2)) e
    rw [List.map_map, List.map_map] at this
    exact this
  unfold textC linesC
  rw [e1, e2, e3, e4, e5, e6]
theorem k_same {c x : Cfg} (h : kOf c = kOf x) : SameCfg c x := by
  refine ⟨congrArg Kon.ps h, congrArg Kon.cen h, congrArg Kon.ds h, congrArg Kon.es h, congrArg Kon.us h, k_len h, fun i p q hp hq => ?_⟩
  obtain ⟨q', hq', q1, q2, q3⟩ := tri_at h hp
  rw [hq] at hq'
  cases Option.some.inj hq'
  exact ⟨q1.symm, q2.symm, q3.symm⟩
theorem parse_text (x : Cfg) (hf : Fine x) (hs : Short x) (h10 : x.ps.length = 10) (w : World) (hr : Rdy w) :
    Calls Tryz.prog 13 #[.string (bs (textC x))] w fun e w' => ∃ c, e = .returned (.tuple #[.agg c.cells.toArray, .int .i64 0, .int .i64 0]) ∧ SameCfg c x ∧ CfgAt w' w'.heap.size c ∧ CfgSz c ∧ Below w.heap.size w w' := by
  obtain ⟨g1, g2⟩ := lns_good hf hs
  have hfit := fit_of (lnsC x) (fun l hl => good_ok (g2 l hl)) (fun l hl => good_nl (g2 l hl)) (lns_prev _ (lns_ord x)) (by omega) (fun c hc => by
    have hk : kOf c = kOf x := hc.trans (lns_k x h10)
    refine ⟨?_, fun p hp => ?_⟩
    · have e2 : c.ds = x.ds := congrArg Kon.ds hk
      have e3 : c.es = x.es := congrArg Kon.es hk
      have e4 : c.us = x.us := congrArg Kon.us hk
      unfold Short
      rw [e2, e3, e4, k_len hk]
      exact hs
    · obtain ⟨q, hq, q1, q2, q3⟩ := tri_mem hk hp
      obtain ⟨i, hi⟩ := List.getElem?_of_mem hq
      obtain ⟨k1, k2, k3, k4⟩ := hf.plan hi
      rw [← q1, ← q2, ← q3]
      refine ⟨fun z hz => ?_, ?_, by have := k1.1.2; omega⟩
      · have := k4 z hz
        unfold KindOk at this
        exact wf_i64_of (by omega) (by omega)
      · exact wf_i64_of (by omega) (by omega))
  have h := parse_lines w hr ((lnsC x).map Ln.lst) (prevOf (lnsC x)) hfit (by rw [lns_rest]; exact text_le hf hs) (by simp; omega)
  rw [lns_rest] at h
  refine h.mono ?_
  rintro e w' ⟨c, hre, hca, hcz, hb, he, _⟩
  have hk : kOf c = kOf x := (reach_k hre).trans (lns_k x h10)
  have hs' := hs
  obtain ⟨s1, s2, s3, _⟩ := hs'
  exact ⟨c, he ⟨k_fine hk hf (by omega) (by omega), by rw [k_text hk, lns_rest]⟩, k_same hk, hca, hcz, hb⟩
end Go.Proofs.YtloacoalmfaceaaGreatDoor
