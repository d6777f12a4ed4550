/-
  The lines of a configuration, in plain Lean: what they do one after another; Parse at them; the examples of the document.
-/
import Derived.Test.YtloacoalmfaceaaGreatDoorPrs6
namespace Go.Proofs.YtloacoalmfaceaaGreatDoor
open Go.RowKit Go.Maps Go.Shelf

inductive Ln where
  | cen (z : Int)
  | node (z : Int)
  | edge (t : T3)
  | unt (t : T3)
  | plan (code : ByteArray) (urg : Int) (kinds : List Int)
  | par (k : Nat) (z : Int)
def isEdge (c : Cfg) (t : T3) (c' : Cfg) : Prop := ∃ A cp, c' = { c with eA := A, ec := cp, es := c.es ++ [t] }
def isUnt (c : Cfg) (t : T3) (c' : Cfg) : Prop := ∃ A cp, c' = { c with uA := A, uc := cp, us := c.us ++ [t] }
def isPlan (c : Cfg) (code : ByteArray) (urg : Int) (kinds : List Int) (c' : Cfg) : Prop := ∃ A cp kA kc, c' = { c with pA := A, pc := cp, pl := c.pl ++ [⟨code, urg, kA, kinds, kc⟩] }
def planWs (code : ByteArray) (urg : Int) (kinds : List Int) : List (List UInt8) := wPlan :: code.data.toList :: dec urg :: kinds.map kindName
def Ln.lst : Ln → LSt
  | .cen z => ⟨[wCentres, dec z], 1, fun c => isCen c z⟩
  | .node z => ⟨nodeW z, 2, fun c => isNode c z⟩
  | .edge t => ⟨edgeW t, 3, fun c => isEdge c t⟩
  | .unt t => ⟨unitW t, 4, fun c => isUnt c t⟩
  | .plan a b d => ⟨planWs a b d, 5, fun c => isPlan c a b d⟩
  | .par k z => ⟨parW k z, 6 + k, fun c => isPar c k z⟩
/-- the contents of a configuration, without where they lie. -/
structure Kon where
  cen : Int
  ds : List Int
  es : List T3
  us : List T3
  pl : List (ByteArray × Int × List Int)
  ps : List Int
def kOf (c : Cfg) : Kon := ⟨c.cen, c.ds, c.es, c.us, c.pl.map (fun p => (p.code, p.urg, p.kinds)), c.ps⟩
def Ln.f : Ln → Kon → Kon
  | .cen z, k => { k with cen := z }
  | .node z, k => { k with ds := k.ds ++ [z] }
  | .edge t, k => { k with es := k.es ++ [t] }
  | .unt t, k => { k with us := k.us ++ [t] }
  | .plan a b d, k => { k with pl := k.pl ++ [(a, b, d)] }
  | .par i z, k => { k with ps := k.ps.set i z }
theorem st_f : ∀ {l : Ln} {c c' : Cfg}, l.lst.st c c' → kOf c' = l.f (kOf c)
  | .cen z, c, c', h => by
    have h : c' = { c with cen := z } := h
    rw [h]; rfl
  | .node z, c, c', h => by
    obtain ⟨A, cp, h⟩ := (h : isNode c z c')
    rw [h]; rfl
  | .edge t, c, c', h => by
    obtain ⟨A, cp, h⟩ := (h : isEdge c t c')
    rw [h]; rfl
  | .unt t, c, c', h => by
    obtain ⟨A, cp, h⟩ := (h : isUnt c t c')
    rw [h]; rfl
  | .plan a b d, c, c', h => by
    obtain ⟨A, cp, kA, kc, h⟩ := (h : isPlan c a b d c')
    rw [h]
    simp [kOf, Ln.f]
  | .par k z, c, c', h => by
    have h : c' = { c with ps := c.ps.set k z } := h
    rw [h]; rfl
def kfold (Ls : List Ln) (k : Kon) : Kon := Ls.foldl (fun k l => l.f k) k
theorem reach_k : ∀ {Ls : List Ln} {c d : Cfg}, Reach (Ls.map Ln.lst) c d → kOf d = kfold Ls (kOf c)
  | [], c, d, h => by
    have h : d = c := h
    rw [h]; rfl
  | l :: r, c, d, h => by
    obtain ⟨c1, h1, h2⟩ := (h : ∃ c1, l.lst.st c c1 ∧ Reach (r.map Ln.lst) c1 d)
    rw [reach_k h2, st_f h1]
    rfl
/-- what a line asks of the configuration under way. -/
def Ln.Pre (l : Ln) (c : Cfg) : Prop := match l with
  | .node _ => c.pl = [] ∧ c.ds.length ≤ 100000000
  | .edge _ => c.es.length ≤ 100000000
  | .unt _ => c.us.length ≤ 100000000
  | .plan _ _ _ => c.pl.length ≤ 100000000
  | _ => True
def prevOf (Ls : List Ln) : Nat → Nat
  | 0 => 0
  | i + 1 => ((Ls[i]?).map (fun l => l.lst.pl)).getD 0
theorem kfold_len : ∀ (Ls : List Ln) (k : Kon), (kfold Ls k).ds.length ≤ k.ds.length + Ls.length ∧ (kfold Ls k).es.length ≤ k.es.length + Ls.length ∧ (kfold Ls k).us.length ≤ k.us.length + Ls.length ∧ (kfold Ls k).pl.length ≤ k.pl.length + Ls.length
  | [], k => ⟨Nat.le_refl _, Nat.le_refl _, Nat.le_refl _, Nat.le_refl _⟩
  | l :: r, k => by
    obtain ⟨h1, h2, h3, h4⟩ := kfold_len r (l.f k)
    have h : (l.f k).ds.length ≤ k.ds.length + 1 ∧ (l.f k).es.length ≤ k.es.length + 1 ∧ (l.f k).us.length ≤ k.us.length + 1 ∧ (l.f k).pl.length ≤ k.pl.length + 1 := by
      cases l <;> simp [Ln.f]
    have e : kfold (l :: r) k = kfold r (l.f k) := rfl
    rw [e]
    simp only [List.length_cons]
    omega
theorem kfold_pl : ∀ (Ls : List Ln) (k : Kon), (∀ l ∈ Ls, l.lst.pl ≠ 5) → (kfold Ls k).pl = k.pl
  | [], _, _ => rfl
  | l :: r, k, h => by
    have e : kfold (l :: r) k = kfold r (l.f k) := rfl
    rw [e, kfold_pl r _ (fun x hx => h x (by simp [hx]))]
    have := h l (by simp)
    cases l <;> first | rfl | exact absurd rfl this
theorem inP_le {p q : Nat} (h : inP p q = true) : q ≤ p := by
  unfold inP at h
  by_cases h0 : q = 0
  · omega
  · rw [if_neg h0] at h
    simp only [Bool.or_eq_true, Bool.and_eq_true, decide_eq_true_eq] at h
    omega
theorem ord_le {Ls : List Ln} (ho : ∀ i l, Ls[i]? = some l → inP l.lst.pl (prevOf Ls i) = true) : ∀ (d i j : Nat) (a b : Ln), j = i + d → Ls[i]? = some a → Ls[j]? = some b → a.lst.pl ≤ b.lst.pl
  | 0, i, j, a, b, e, ha, hb => by
    have e : j = i := e
    subst e
    rw [ha] at hb
    rw [Option.some.inj hb]
    exact Nat.le_refl _
  | d + 1, i, j, a, b, e, ha, hb => by
    have hj : j = (i + d) + 1 := by omega
    subst hj
    have hlt : i + d < Ls.length := by have := (List.getElem?_eq_some_iff.1 hb).1; omega
    obtain ⟨x, hx⟩ : ∃ x, Ls[i + d]? = some x := ⟨Ls[i + d], by simp [hlt]⟩
    have h1 := ord_le ho d i (i + d) a x rfl ha hx
    have h2 := inP_le (ho _ _ hb)
    have e2 : prevOf Ls (i + d + 1) = x.lst.pl := by
      show ((Ls[i + d]?).map (fun l => l.lst.pl)).getD 0 = _
      rw [hx]
      rfl
    rw [e2] at h2
    omega
theorem fit_of (Ls : List Ln) (hok : ∀ l ∈ Ls, ∀ cb c, l.Pre c → LineOk cb l.lst c) (hnl : ∀ l ∈ Ls, (10 : UInt8) ∉ Lib.join l.lst.ws [32]) (hord : ∀ i l, Ls[i]? = some l → inP l.lst.pl (prevOf Ls i) = true) (hlen : Ls.length ≤ 1000000)
    (hfin : ∀ c, kOf c = kfold Ls (kOf defCfg) → Short c ∧ ∀ p ∈ c.pl, (∀ z ∈ p.kinds, (Lit.int .i64 z).wf = true) ∧ (Lit.int .i64 p.urg).wf = true ∧ p.code.size ≤ 9223372036854775807) :
    ∀ cb, Fit cb (Ls.map Ln.lst) (prevOf Ls) defCfg := fun cb => by
  refine ⟨fun i l hl c hr => ?_, fun l hl => ?_, rfl, fun i l hl => ?_, fun c hr => hfin c (reach_k hr)⟩
  · rw [List.getElem?_map] at hl
    obtain ⟨a, ha, rfl⟩ := Option.map_eq_some_iff.1 hl
    rw [← List.map_take] at hr
    have hk := reach_k hr
    refine hok a (List.mem_of_getElem? ha) cb c ?_
    have h0 : (kOf defCfg).ds = [] ∧ (kOf defCfg).es = [] ∧ (kOf defCfg).us = [] ∧ (kOf defCfg).pl = [] := ⟨rfl, rfl, rfl, rfl⟩
    obtain ⟨g1, g2, g3, g4⟩ := kfold_len (Ls.take i) (kOf defCfg)
    rw [← hk, h0.1] at g1
    rw [← hk, h0.2.1] at g2
    rw [← hk, h0.2.2.1] at g3
    rw [← hk, h0.2.2.2] at g4
    have ht : (Ls.take i).length ≤ 1000000 := by simp; omega
    have e1 : (kOf c).ds = c.ds := rfl
    have e2 : (kOf c).es = c.es := rfl
    have e3 : (kOf c).us = c.us := rfl
    have e4 : (kOf c).pl.length = c.pl.length := by simp [kOf]
    rw [e1] at g1
    rw [e2] at g2
    rw [e3] at g3
    rw [e4] at g4
    simp only [List.length_nil] at g1 g2 g3 g4
    cases a with
    | node z =>
      refine ⟨?_, by omega⟩
      have hp := kfold_pl (Ls.take i) (kOf defCfg) (fun x hx => by
        obtain ⟨j, hj⟩ := List.getElem?_of_mem hx
        have hji : j < i := by
          have := (List.getElem?_eq_some_iff.1 hj).1
          simp at this
          omega
        rw [List.getElem?_take_of_lt hji] at hj
        have := ord_le hord (i - j) j i x (.node z) (by omega) hj ha
        have e : (Ln.node z).lst.pl = 2 := rfl
        rw [e] at this
        omega)
      rw [← hk, h0.2.2.2] at hp
      have : c.pl.map (fun p => (p.code, p.urg, p.kinds)) = [] := hp
      simpa using this
    | cen z => trivial
    | edge t => show c.es.length ≤ _; omega
    | unt t => show c.us.length ≤ _; omega
    | plan x y z => show c.pl.length ≤ _; omega
    | par k z => trivial
  · obtain ⟨a, ha, rfl⟩ := List.mem_map.1 hl
    exact hnl a ha
  · rw [List.getElem?_map] at hl
    obtain ⟨a, ha, rfl⟩ := Option.map_eq_some_iff.1 hl
    refine ⟨?_, hord i a ha⟩
    show ((Ls[i]?).map (fun l => l.lst.pl)).getD 0 = _
    rw [ha]
    rfl
theorem nl_dec (z : Int) : (10 : UInt8) ∉ dec z := fun h => by
  have := dec_dig z.toNat 10 h
  unfold isDig at this
  have e : (10 : UInt8).toNat = 10 := rfl
  omega
theorem nl_join : ∀ {ws : List (List UInt8)}, (∀ x ∈ ws, (10 : UInt8) ∉ x) → (10 : UInt8) ∉ Lib.join ws [32]
  | [], _ => by simp [Lib.join]
  | x :: r, h => by
    rw [Lib.join_cons]
    unfold Lib.joinTail
    simp only [List.mem_append, List.mem_flatten, List.mem_map, not_or, not_exists, not_and]
    refine ⟨h x (by simp), fun l ⟨a, ha, e⟩ hm => ?_⟩
    subst e
    rcases List.mem_append.1 hm with hm | hm
    · simp at hm
    · exact h a (by simp [ha]) hm
theorem parNm_plain : ∀ k, k < 10 → (32 : UInt8) ∉ (parNm k).data.toList ∧ (10 : UInt8) ∉ (parNm k).data.toList := ten_cases (by decide) (by decide) (by decide) (by decide) (by decide) (by decide) (by decide) (by decide) (by decide) (by decide)
/-- lines of values. -/
def Ln.Val : Ln → Prop
  | .cen z => 0 ≤ z ∧ z < 1000000000000000000
  | .node z => 0 ≤ z ∧ z < 1000000000000000000
  | .par k z => k < 10 ∧ 0 ≤ z ∧ z < 1000000000000000000
  | _ => False
theorem val_ok : ∀ {l : Ln}, l.Val → ∀ cb c, l.Pre c → LineOk cb l.lst c
  | .cen z, h, cb, c, _ => fun W hp hr => line_val cb c W hp hr wCentres z (by decide) (by decide) h.1 h.2 (by decide) (by decide) (by decide) 1 (isCen c z) (Lib.hid (fun W1 b o cc h1 h2 h3 => value_cen cb c W1 h1 z h.1 h.2 (bs wCentres) (bs_data _) b o cc h2 h3))
  | .node z, h, cb, c, hq => fun W hp hr => line_val cb c W hp hr wNode z (by decide) (by decide) h.1 h.2 (by decide) (by decide) (by decide) 2 (isNode c z) (Lib.hid (fun W1 b o cc h1 h2 h3 => value_node cb c W1 h1 z h.1 h.2 hq.1 hq.2 (bs wNode) (bs_data _) b o cc h2 h3))
  | .par k z, h, cb, c, _ => fun W hp hr => by
    obtain ⟨hk, h0, h1⟩ := h
    have ho := parNm_other k hk
    have := line_val cb c W hp hr (parNm k).data.toList z (parNm_plain k hk).1 (by have := parNm_len k hk; omega) h0 h1 ho.2.2.1 ho.2.2.2.1 ho.2.2.2.2 (6 + (k : Int)) (isPar c k z) (Lib.hid (fun W1 b o cc g1 g2 g3 => value_par cb c W1 g1 z h0 h1 k hk (bs (parNm k).data.toList) (bs_data _) b o cc g2 g3))
    exact this
theorem val_nl : ∀ {l : Ln}, l.Val → (10 : UInt8) ∉ Lib.join l.lst.ws [32]
  | .cen z, _ => nl_join (by intro x hx; simp only [Ln.lst, List.mem_cons, List.mem_nil_iff, or_false] at hx; rcases hx with rfl | rfl; decide; exact nl_dec z)
  | .node z, _ => nl_join (by intro x hx; simp only [Ln.lst, nodeW, List.mem_cons, List.mem_nil_iff, or_false] at hx; rcases hx with rfl | rfl; decide; exact nl_dec z)
  | .par k z, h => nl_join (by intro x hx; simp only [Ln.lst, parW, List.mem_cons, List.mem_nil_iff, or_false] at hx; rcases hx with rfl | rfl; exact (parNm_plain k h.1).2; exact nl_dec z)
end Go.Proofs.YtloacoalmfaceaaGreatDoor
