/-
  The reference's guess at an action and at an event, in plain Lean: at the words of a valid one it is right.
-/
import Derived.Test.YtakdkiggaalimaaGreatDoorTrO
import Derived.IntWalk
namespace Go.Proofs.YtakdkiggaalimaaGreatDoor
open Go.Lib

theorem wrap_id {n : Int} (h : Is64 n) : IntKind.i64.wrap n = n := IntWalk.i64_in _ h
/-- the reference's number: digits modulo 2^64, signs left out. -/
def stepR (n : Int) (c : UInt8) : Int := if c = 45 then n else IntKind.i64.wrap (IntKind.i64.wrap (IntKind.i64.wrap (10 * n) + c.toNat) - 48)
def numR (w : Wd) : Int := if w.head? = some 45 then IntKind.i64.wrap (0 - w.foldl stepR 0) else w.foldl stepR 0
theorem wrap_64 (n : Int) : Is64 (IntKind.i64.wrap n) := by
  have h1 := IntKind.wrap_i64 n
  unfold Is64
  omega
theorem stepR_64 {n : Int} (h : Is64 n) (c : UInt8) : Is64 (stepR n c) := by
  unfold stepR
  split
  · exact h
  · exact wrap_64 _
theorem foldR_64 (l : Wd) {n : Int} (h : Is64 n) : Is64 (l.foldl stepR n) := by
  induction l generalizing n with
  | nil => exact h
  | cons c r ih => exact ih (stepR_64 h c)
theorem numR_64 (w : Wd) : Is64 (numR w) := by
  unfold numR
  split
  · exact wrap_64 _
  · exact foldR_64 w is64_0
theorem stepR_dig {c : UInt8} (hc : isDig c) (x : Int) : stepR (IntKind.i64.wrap x) c = IntKind.i64.wrap (x * 10 + ((c.toNat - 48 : Nat) : Int)) := by
  have hw := fun n => IntKind.wrap_i64 n
  have h45 : ¬ c = 45 := fun e => by
    rw [e] at hc
    unfold isDig at hc
    exact absurd hc (by decide)
  unfold stepR
  rw [if_neg h45, hw, hw, hw, hw, hw]
  unfold isDig at hc
  omega
theorem foldR_dig : ∀ (l : Wd) (x : Nat), (∀ c ∈ l, isDig c) → l.foldl stepR (IntKind.i64.wrap x) = IntKind.i64.wrap (valFrom x l)
  | [], x, _ => by rw [valFrom_nil]; rfl
  | c :: r, x, h => by
    rw [List.foldl_cons, stepR_dig (h c (by simp)), valFrom_cons]
    have e : (x : Int) * 10 + ((c.toNat - 48 : Nat) : Int) = ((x * 10 + (c.toNat - 48) : Nat) : Int) := by omega
    rw [e]
    exact foldR_dig r _ (fun y hy => h y (by simp [hy]))
theorem fold_dec (k : Nat) : (decDigits k).foldl stepR 0 = IntKind.i64.wrap k := by
  have h := foldR_dig (decDigits k) 0 (dec_dig k)
  rw [val_dec] at h
  have e : IntKind.i64.wrap ((0 : Nat) : Int) = 0 := by rfl
  rw [e] at h
  exact h
theorem numR_itoa {v : Int} (h : Is64 v) : numR (itoa v) = v := by
  have hw := fun n => IntKind.wrap_i64 n
  obtain ⟨h1, h2⟩ := h
  unfold numR
  rcases Int.lt_or_le v 0 with q | q
  · rw [itoa_min q]
    rw [if_pos (by rfl), List.foldl_cons]
    have e : stepR 0 45 = 0 := by rfl
    rw [e, fold_dec, hw, hw]
    omega
  · rw [itoa_pos q]
    have hh : ¬ (decDigits v.toNat).head? = some 45 := fun e => by
      cases hd : decDigits v.toNat with
      | nil => rw [hd] at e; cases e
      | cons c r =>
        rw [hd] at e
        injection e with e
        have := dec_dig v.toNat c (by rw [hd]; simp)
        rw [e] at this
        unfold isDig at this
        exact absurd this (by decide)
    rw [if_neg hh, fold_dec, hw]
    omega
/-- the number at an index, 0 if there is none. -/
def atR (w : List Wd) (i : Nat) : Int := match w[i]? with
  | some x => numR x
  | none => 0
theorem atR_64 (w : List Wd) (i : Nat) : Is64 (atR w i) := by
  unfold atR
  split
  · exact numR_64 _
  · exact is64_0
theorem atR_num {w : List Wd} {i : Nat} {v : Int} (h : w[i]? = some (itoa v)) (hv : Is64 v) : atR w i = v := by
  unfold atR
  rw [h]
  exact numR_itoa hv
/-- the list that starts at an index. -/
def spanR (w : List Wd) (i : Nat) : List Int := ((w.drop (i + 1)).take (atR w i).toNat).map numR
theorem map_numR : ∀ l : List Int, (∀ v ∈ l, Is64 v) → (l.map itoa).map numR = l
  | [], _ => rfl
  | v :: l, h => by
    rw [List.map_cons, List.map_cons, numR_itoa (h v (by simp)), map_numR l (fun x hx => h x (by simp [hx]))]
theorem spanR_list {w r : List Wd} {i : Nat} {l : List Int} (h : w.drop i = listW l ++ r) (hl : VL l) : spanR w i = l := by
  unfold listW at h
  rw [List.cons_append] at h
  have h1 : w[i]? = some (itoa l.length) := by
    have := congrArg (·[0]?) h
    simpa using this
  have h2 : w.drop (i + 1) = l.map itoa ++ r := by
    have := congrArg (List.drop 1) h
    rw [List.drop_drop] at this
    simpa using this
  unfold spanR
  rw [atR_num h1 (by have := hl.1; unfold Is64; omega), h2]
  have e : ((l.length : Nat) : Int).toNat = (l.map itoa).length := by simp
  rw [e, List.take_left]
  exact map_numR l hl.2
/-- the sources that start at an index, n of them at most. -/
def srcsR (w : List Wd) : Nat → Nat → List SrcC
  | 0, _ => []
  | n + 1, i => if i < w.length then ⟨atR w i, spanR w (i + 1)⟩ :: srcsR w n (i + 2 + (spanR w (i + 1)).length) else []
theorem srcsR_list : ∀ {w r : List Wd} (l : List SrcC) {i : Nat}, w.drop i = srcsW l ++ r → (∀ s ∈ l, VSr s) → srcsR w l.length i = l
  | w, r, [], i, _, _ => rfl
  | w, r, s :: l, i, h, hl => by
    have hs := hl s (by simp)
    unfold srcsW at h
    rw [List.flatMap_cons, List.append_assoc] at h
    have hi : i < w.length := by
      have := congrArg List.length h
      rw [List.length_drop] at this
      simp [srcW] at this
      omega
    have h1 : w[i]? = some (itoa s.kind) := by
      have := congrArg (·[0]?) h
      simpa [srcW] using this
    have h2 : w.drop (i + 1) = listW s.nodes ++ (l.flatMap srcW ++ r) := by
      have := congrArg (List.drop 1) h
      rw [List.drop_drop] at this
      simpa [srcW] using this
    have h3 := spanR_list h2 hs.2
    have h4 : w.drop (i + 2 + s.nodes.length) = srcsW l ++ r := by
      have := congrArg (List.drop (1 + s.nodes.length)) h2
      rw [List.drop_drop] at this
      have e : i + 1 + (1 + s.nodes.length) = i + 2 + s.nodes.length := by omega
      rw [e] at this
      rw [this]
      have e2 : 1 + s.nodes.length = (listW s.nodes).length := by simp [listW]; omega
      rw [e2, List.drop_left]
      rfl
    rw [List.length_cons, srcsR, if_pos hi, h3, atR_num h1 hs.1, srcsR_list l h4 (fun x hx => hl x (by simp [hx]))]
/-- the kind whose name is w: the last from 1 to n. -/
def kindR (nm : Int → Wd) (w : Wd) : Nat → Int
  | 0 => 0
  | n + 1 => if nm ((n : Int) + 1) = w then (n : Int) + 1 else kindR nm w n
theorem kindR_range (nm : Int → Wd) (w : Wd) : ∀ n, 0 ≤ kindR nm w n ∧ kindR nm w n ≤ n
  | 0 => ⟨Int.le_refl _, Int.le_refl _⟩
  | n + 1 => by
    unfold kindR
    split
    · omega
    · have := kindR_range nm w n
      omega
theorem kindR_some {nm : Int → Wd} {w : Wd} {n : Nat} (h : kindR nm w n ≠ 0) : nm (kindR nm w n) = w := by
  induction n with
  | zero => exact absurd rfl h
  | succ n ih =>
    unfold kindR at h ⊢
    split
    · assumption
    · rename_i q
      rw [if_neg q] at h
      exact ih h
theorem kindR_of {nm : Int → Wd} {w : Wd} {k : Int} {n : Nat} (h1 : 1 ≤ k) (h2 : k ≤ n) (hn : nm k = w) (hu : ∀ j : Int, 1 ≤ j → j ≤ n → nm j = w → j = k) : kindR nm w n = k := by
  induction n with
  | zero => omega
  | succ n ih =>
    unfold kindR
    split
    · rename_i q
      exact hu _ (by omega) (by omega) q
    · rename_i q
      have hk : k ≠ (n : Int) + 1 := fun e => q (by rw [← e]; exact hn)
      exact ih (by omega) (fun j a b c => hu j a (by omega) c)
theorem kindR_act {k : Int} (h : actN k ≠ []) : kindR actN (actN k) 19 = k :=
  kindR_of (actN_in h).1 (actN_in h).2 rfl (fun _ h1 h2 q => actN_inj ⟨h1, h2⟩ (actN_in h) q)
theorem kindR_ev {k : Int} (h : evN k ≠ []) : kindR evN (evN k) 13 = k :=
  kindR_of (evN_in h).1 (evN_in h).2 rfl (fun _ h1 h2 q => evN_inj ⟨h1, h2⟩ (evN_in h) q)
/-- where the fields of an action of a kind stand among its words. -/
def guessK (k : Int) (w : List Wd) : ActC := match k with
  | 1 => { kindA 1 with node := atR w 1, srcs := srcsR w (atR w 2).toNat 3 }
  | 2 => { kindA 2 with call := atR w 1, n := atR w 2 }
  | 3 => { kindA 3 with call := atR w 1 }
  | 5 => { kindA 5 with n := atR w 1 }
  | 6 => { kindA 6 with n := atR w 1 }
  | 7 => { kindA 7 with n := atR w 1 }
  | 8 => { kindA 8 with groups := spanR w 1 }
  | 10 => { kindA 10 with who := atR w 1, n := atR w 2 }
  | 11 => { kindA 11 with who := atR w 1 }
  | 12 => { kindA 12 with who := atR w 1 }
  | 13 => { kindA 13 with who := atR w 1 }
  | 14 => { kindA 14 with who := atR w 1, call := atR w 2, n := atR w 3 }
  | 15 => { kindA 15 with who := atR w 1, call := atR w 2, other := atR w 3 }
  | 16 => { kindA 16 with who := atR w 1, call := atR w 2, other := atR w 3 }
  | 17 => { kindA 17 with who := atR w 1, call := atR w 2 }
  | 18 => { kindA 18 with who := atR w 1, n := atR w 2 }
  | 19 => { kindA 19 with who := atR w 1, n := atR w 2, node := atR w 3 }
  | k => kindA k
def kindOfA (w : List Wd) : Int := match w with
  | [] => 0
  | x :: _ => kindR actN x 19
def guessA (w : List Wd) : ActC := guessK (kindOfA w) w
def digR (c : UInt8) : UInt8 := if 97 ≤ c ∧ c ≤ 102 then c - 97 + 10 else c - 48
def unhexP : Wd → Wd
  | x :: y :: r => (16 * digR x + digR y) :: unhexP r
  | _ => []
def unhexR (w : Wd) : Wd := unhexP (w.drop 1)
def guessEK (k : Int) (w : List Wd) : EvC := match k with
  | 1 => { kindE 1 (atR w 0) with act := if 2 < w.length then guessA (w.drop 2) else act0 }
  | 2 => { kindE 2 (atR w 0) with call := atR w 2, who := atR w 3 }
  | 3 => { kindE 3 (atR w 0) with call := atR w 2, who := atR w 3, epoch := atR w 4 }
  | 4 => { kindE 4 (atR w 0) with call := atR w 2, n := atR w 3 }
  | 5 => { kindE 5 (atR w 0) with call := atR w 2 }
  | 6 => { kindE 6 (atR w 0) with call := atR w 2, who := atR w 3, epoch := atR w 4 }
  | 7 => { kindE 7 (atR w 0) with who := atR w 2, n := atR w 3, eterm := atR w 4, ekind := atR w 5, ebody := match w[6]? with | some x => unhexR x | none => [] }
  | 8 => { kindE 8 (atR w 0) with who := atR w 2, ord := ⟨atR w 3, atR w 4, atR w 5, atR w 6, atR w 7⟩ }
  | 9 => { kindE 9 (atR w 0) with who := atR w 2, sta := ⟨atR w 3, atR w 4, atR w 5, atR w 6, atR w 7⟩ }
  | 10 => { kindE 10 (atR w 0) with who := atR w 2 }
  | 11 => { kindE 11 (atR w 0) with who := atR w 2 }
  | 12 => { kindE 12 (atR w 0) with who := atR w 2, n := atR w 3, epoch := atR w 4 }
  | 13 => { kindE 13 (atR w 0) with who := atR w 2, n := atR w 3 }
  | k => kindE k (atR w 0)
def kindOfE (w : List Wd) : Int := match w with
  | _ :: x :: _ => kindR evN x 13
  | _ => 0
def guessE (w : List Wd) : EvC := guessEK (kindOfE w) w
theorem hexD_dig : ∀ a b : Fin 16, 16 * digR (hexD a.val) + digR (hexD b.val) = UInt8.ofNat (16 * a.val + b.val) := by decide
theorem unhex_hex (b : Wd) : unhexR (hexW b) = b := by
  unfold unhexR hexW
  rw [List.drop_succ_cons, List.drop_zero]
  induction b with
  | nil => rfl
  | cons x r ih =>
    have hx := x.toNat_lt
    have e := hexD_dig ⟨x.toNat / 16, by omega⟩ ⟨x.toNat % 16, by omega⟩
    simp only at e
    rw [List.flatMap_cons]
    show (16 * digR (hexD (x.toNat / 16)) + digR (hexD (x.toNat % 16))) :: unhexP (r.flatMap (fun x => [hexD (x.toNat / 16), hexD (x.toNat % 16)])) = _
    rw [e, ih]
    congr 1
    apply UInt8.toNat_inj.1
    rw [UInt8.toNat_ofNat']
    omega
theorem onlyK {b : ActC} (h : ActOk b) {k : Int} (hk : b.kind = k) : b = aPuts b (actF k) (kindA k) := by
  have h1 := (onlyA_iff.1 h).2
  unfold onlyA at h1
  rwa [hk] at h1
theorem actW_of {b : ActC} {k : Int} (hk : b.kind = k) : actW b = actN k :: (actF k).flatMap (aW b) := by
  unfold actW
  rw [hk]
theorem kindOf_act {b : ActC} (h : ActOk b) : kindOfA (actW b) = b.kind := kindR_act h.1
theorem guess_act {b : ActC} (h : VAct b) : guessA (actW b) = b := by
  obtain ⟨h1, h2⟩ := actN_in h.1.1
  have hw : ∀ k, b.kind = k → guessA (actW b) = guessK k (actN k :: (actF k).flatMap (aW b)) := fun k hk => by
    unfold guessA
    rw [kindOf_act h.1, hk, actW_of hk]
  have hv := h.2
  have hcases : b.kind = 1 ∨ b.kind = 2 ∨ b.kind = 3 ∨ b.kind = 4 ∨ b.kind = 5 ∨ b.kind = 6 ∨ b.kind = 7 ∨ b.kind = 8 ∨ b.kind = 9 ∨ b.kind = 10 ∨ b.kind = 11 ∨ b.kind = 12 ∨ b.kind = 13 ∨ b.kind = 14 ∨ b.kind = 15 ∨ b.kind = 16 ∨ b.kind = 17 ∨ b.kind = 18 ∨ b.kind = 19 := by omega
  have z : ∀ {f : Nat} {k : Int}, b.kind = k → f ∈ actF k → VA f b := fun hk hf => hv _ (by rw [hk]; exact hf)
  rcases hcases with e | e | e | e | e | e | e | e | e | e | e | e | e | e | e | e | e | e | e
  · rw [hw _ e]
    conv => rhs; rw [onlyK h.1 e]
    have e1 : atR (actN 1 :: (actF 1).flatMap (aW b)) 1 = b.node := atR_num rfl (z (f := 4) e (by decide))
    have hs := z (f := 5) e (by decide)
    have e2 : atR (actN 1 :: (actF 1).flatMap (aW b)) 2 = b.srcs.length := atR_num rfl (by have := hs.1; unfold Is64; omega)
    have e3 : srcsR (actN 1 :: (actF 1).flatMap (aW b)) b.srcs.length 3 = b.srcs := srcsR_list (r := []) b.srcs (by
      show (b.srcs.flatMap srcW) ++ [] = _
      rfl) hs.2
    show ({ kindA 1 with node := atR (actN 1 :: (actF 1).flatMap (aW b)) 1, srcs := srcsR (actN 1 :: (actF 1).flatMap (aW b)) (atR (actN 1 :: (actF 1).flatMap (aW b)) 2).toNat 3 } : ActC) = { kindA 1 with node := b.node, srcs := b.srcs }
    rw [e1, e2, Int.toNat_natCast, e3]
  · rw [hw _ e]
    conv => rhs; rw [onlyK h.1 e]
    have e1 : atR (actN 2 :: (actF 2).flatMap (aW b)) 1 = b.call := atR_num rfl (z (f := 2) e (by decide))
    have e2 : atR (actN 2 :: (actF 2).flatMap (aW b)) 2 = b.n := atR_num rfl (z (f := 1) e (by decide))
    show ({ kindA 2 with call := atR (actN 2 :: (actF 2).flatMap (aW b)) 1, n := atR (actN 2 :: (actF 2).flatMap (aW b)) 2 } : ActC) = { kindA 2 with call := b.call, n := b.n }
    rw [e1, e2]
  · rw [hw _ e]
    conv => rhs; rw [onlyK h.1 e]
    have e1 : atR (actN 3 :: (actF 3).flatMap (aW b)) 1 = b.call := atR_num rfl (z (f := 2) e (by decide))
    show ({ kindA 3 with call := atR (actN 3 :: (actF 3).flatMap (aW b)) 1 } : ActC) = { kindA 3 with call := b.call }
    rw [e1]
  · rw [hw _ e]
    conv => rhs; rw [onlyK h.1 e]
    rfl
  · rw [hw _ e]
    conv => rhs; rw [onlyK h.1 e]
    have e1 : atR (actN 5 :: (actF 5).flatMap (aW b)) 1 = b.n := atR_num rfl (z (f := 1) e (by decide))
    show ({ kindA 5 with n := atR (actN 5 :: (actF 5).flatMap (aW b)) 1 } : ActC) = { kindA 5 with n := b.n }
    rw [e1]
  · rw [hw _ e]
    conv => rhs; rw [onlyK h.1 e]
    have e1 : atR (actN 6 :: (actF 6).flatMap (aW b)) 1 = b.n := atR_num rfl (z (f := 1) e (by decide))
    show ({ kindA 6 with n := atR (actN 6 :: (actF 6).flatMap (aW b)) 1 } : ActC) = { kindA 6 with n := b.n }
    rw [e1]
  · rw [hw _ e]
    conv => rhs; rw [onlyK h.1 e]
    have e1 : atR (actN 7 :: (actF 7).flatMap (aW b)) 1 = b.n := atR_num rfl (z (f := 1) e (by decide))
    show ({ kindA 7 with n := atR (actN 7 :: (actF 7).flatMap (aW b)) 1 } : ActC) = { kindA 7 with n := b.n }
    rw [e1]
  · rw [hw _ e]
    conv => rhs; rw [onlyK h.1 e]
    have hs := z (f := 6) e (by decide)
    have e1 : spanR (actN 8 :: (actF 8).flatMap (aW b)) 1 = b.groups := spanR_list (r := []) rfl hs
    show ({ kindA 8 with groups := spanR (actN 8 :: (actF 8).flatMap (aW b)) 1 } : ActC) = { kindA 8 with groups := b.groups }
    rw [e1]
  · rw [hw _ e]
    conv => rhs; rw [onlyK h.1 e]
    rfl
  · rw [hw _ e]
    conv => rhs; rw [onlyK h.1 e]
    have e1 : atR (actN 10 :: (actF 10).flatMap (aW b)) 1 = b.who := atR_num rfl (z (f := 0) e (by decide))
    have e2 : atR (actN 10 :: (actF 10).flatMap (aW b)) 2 = b.n := atR_num rfl (z (f := 1) e (by decide))
    show ({ kindA 10 with who := atR (actN 10 :: (actF 10).flatMap (aW b)) 1, n := atR (actN 10 :: (actF 10).flatMap (aW b)) 2 } : ActC) = { kindA 10 with who := b.who, n := b.n }
    rw [e1, e2]
  · rw [hw _ e]
    conv => rhs; rw [onlyK h.1 e]
    have e1 : atR (actN 11 :: (actF 11).flatMap (aW b)) 1 = b.who := atR_num rfl (z (f := 0) e (by decide))
    show ({ kindA 11 with who := atR (actN 11 :: (actF 11).flatMap (aW b)) 1 } : ActC) = { kindA 11 with who := b.who }
    rw [e1]
  · rw [hw _ e]
    conv => rhs; rw [onlyK h.1 e]
    have e1 : atR (actN 12 :: (actF 12).flatMap (aW b)) 1 = b.who := atR_num rfl (z (f := 0) e (by decide))
    show ({ kindA 12 with who := atR (actN 12 :: (actF 12).flatMap (aW b)) 1 } : ActC) = { kindA 12 with who := b.who }
    rw [e1]
  · rw [hw _ e]
    conv => rhs; rw [onlyK h.1 e]
    have e1 : atR (actN 13 :: (actF 13).flatMap (aW b)) 1 = b.who := atR_num rfl (z (f := 0) e (by decide))
    show ({ kindA 13 with who := atR (actN 13 :: (actF 13).flatMap (aW b)) 1 } : ActC) = { kindA 13 with who := b.who }
    rw [e1]
  · rw [hw _ e]
    conv => rhs; rw [onlyK h.1 e]
    have e1 : atR (actN 14 :: (actF 14).flatMap (aW b)) 1 = b.who := atR_num rfl (z (f := 0) e (by decide))
    have e2 : atR (actN 14 :: (actF 14).flatMap (aW b)) 2 = b.call := atR_num rfl (z (f := 2) e (by decide))
    have e3 : atR (actN 14 :: (actF 14).flatMap (aW b)) 3 = b.n := atR_num rfl (z (f := 1) e (by decide))
    show ({ kindA 14 with who := atR (actN 14 :: (actF 14).flatMap (aW b)) 1, call := atR (actN 14 :: (actF 14).flatMap (aW b)) 2, n := atR (actN 14 :: (actF 14).flatMap (aW b)) 3 } : ActC) = { kindA 14 with who := b.who, call := b.call, n := b.n }
    rw [e1, e2, e3]
  · rw [hw _ e]
    conv => rhs; rw [onlyK h.1 e]
    have e1 : atR (actN 15 :: (actF 15).flatMap (aW b)) 1 = b.who := atR_num rfl (z (f := 0) e (by decide))
    have e2 : atR (actN 15 :: (actF 15).flatMap (aW b)) 2 = b.call := atR_num rfl (z (f := 2) e (by decide))
    have e3 : atR (actN 15 :: (actF 15).flatMap (aW b)) 3 = b.other := atR_num rfl (z (f := 3) e (by decide))
    show ({ kindA 15 with who := atR (actN 15 :: (actF 15).flatMap (aW b)) 1, call := atR (actN 15 :: (actF 15).flatMap (aW b)) 2, other := atR (actN 15 :: (actF 15).flatMap (aW b)) 3 } : ActC) = { kindA 15 with who := b.who, call := b.call, other := b.other }
    rw [e1, e2, e3]
  · rw [hw _ e]
    conv => rhs; rw [onlyK h.1 e]
    have e1 : atR (actN 16 :: (actF 16).flatMap (aW b)) 1 = b.who := atR_num rfl (z (f := 0) e (by decide))
    have e2 : atR (actN 16 :: (actF 16).flatMap (aW b)) 2 = b.call := atR_num rfl (z (f := 2) e (by decide))
    have e3 : atR (actN 16 :: (actF 16).flatMap (aW b)) 3 = b.other := atR_num rfl (z (f := 3) e (by decide))
    show ({ kindA 16 with who := atR (actN 16 :: (actF 16).flatMap (aW b)) 1, call := atR (actN 16 :: (actF 16).flatMap (aW b)) 2, other := atR (actN 16 :: (actF 16).flatMap (aW b)) 3 } : ActC) = { kindA 16 with who := b.who, call := b.call, other := b.other }
    rw [e1, e2, e3]
  · rw [hw _ e]
    conv => rhs; rw [onlyK h.1 e]
    have e1 : atR (actN 17 :: (actF 17).flatMap (aW b)) 1 = b.who := atR_num rfl (z (f := 0) e (by decide))
    have e2 : atR (actN 17 :: (actF 17).flatMap (aW b)) 2 = b.call := atR_num rfl (z (f := 2) e (by decide))
    show ({ kindA 17 with who := atR (actN 17 :: (actF 17).flatMap (aW b)) 1, call := atR (actN 17 :: (actF 17).flatMap (aW b)) 2 } : ActC) = { kindA 17 with who := b.who, call := b.call }
    rw [e1, e2]
  · rw [hw _ e]
    conv => rhs; rw [onlyK h.1 e]
    have e1 : atR (actN 18 :: (actF 18).flatMap (aW b)) 1 = b.who := atR_num rfl (z (f := 0) e (by decide))
    have e2 : atR (actN 18 :: (actF 18).flatMap (aW b)) 2 = b.n := atR_num rfl (z (f := 1) e (by decide))
    show ({ kindA 18 with who := atR (actN 18 :: (actF 18).flatMap (aW b)) 1, n := atR (actN 18 :: (actF 18).flatMap (aW b)) 2 } : ActC) = { kindA 18 with who := b.who, n := b.n }
    rw [e1, e2]
  · rw [hw _ e]
    conv => rhs; rw [onlyK h.1 e]
    have e1 : atR (actN 19 :: (actF 19).flatMap (aW b)) 1 = b.who := atR_num rfl (z (f := 0) e (by decide))
    have e2 : atR (actN 19 :: (actF 19).flatMap (aW b)) 2 = b.n := atR_num rfl (z (f := 1) e (by decide))
    have e3 : atR (actN 19 :: (actF 19).flatMap (aW b)) 3 = b.node := atR_num rfl (z (f := 4) e (by decide))
    show ({ kindA 19 with who := atR (actN 19 :: (actF 19).flatMap (aW b)) 1, n := atR (actN 19 :: (actF 19).flatMap (aW b)) 2, node := atR (actN 19 :: (actF 19).flatMap (aW b)) 3 } : ActC) = { kindA 19 with who := b.who, n := b.n, node := b.node }
    rw [e1, e2, e3]
theorem onlyEK {b : EvC} (h : VEv b) {k : Int} (hk : b.kind = k) : b = ePuts b (evF k) (kindE k b.tick) := by
  have h1 := onlyE_iff.1 h.1.2.2
  unfold onlyE at h1
  rwa [hk] at h1
theorem evW_of {b : EvC} {k : Int} (hk : b.kind = k) : evW b = itoa b.tick :: evN k :: (evF k).flatMap (eW b) := by
  unfold evW
  rw [hk]
theorem kindOf_ev {b : EvC} (h : VEv b) : kindOfE (evW b) = b.kind := kindR_ev h.1.1
theorem guess_ev {b : EvC} (h : VEv b) : guessE (evW b) = b := by
  obtain ⟨h1, h2⟩ := evN_in h.1.1
  have hw : ∀ k, b.kind = k → guessE (evW b) = guessEK k (itoa b.tick :: evN k :: (evF k).flatMap (eW b)) := fun k hk => by
    unfold guessE
    rw [kindOf_ev h, hk, evW_of hk]
  have hv := h.2
  have t0 : ∀ r, atR (itoa b.tick :: r) 0 = b.tick := fun r => atR_num rfl h.1.2.1
  have hcases : b.kind = 1 ∨ b.kind = 2 ∨ b.kind = 3 ∨ b.kind = 4 ∨ b.kind = 5 ∨ b.kind = 6 ∨ b.kind = 7 ∨ b.kind = 8 ∨ b.kind = 9 ∨ b.kind = 10 ∨ b.kind = 11 ∨ b.kind = 12 ∨ b.kind = 13 := by omega
  have z : ∀ {f : Nat} {k : Int}, b.kind = k → f ∈ evF k → VE f b := fun hk hf => hv _ (by rw [hk]; exact hf)
  rcases hcases with e | e | e | e | e | e | e | e | e | e | e | e | e
  · rw [hw _ e]
    conv => rhs; rw [onlyEK h e]
    have hs := z (f := 4) e (by decide)
    have e1 : (itoa b.tick :: evN 1 :: (evF 1).flatMap (eW b)).drop 2 = actW b.act := by
      show actW b.act ++ [] = _
      rw [List.append_nil]
    have e2 : 2 < (itoa b.tick :: evN 1 :: (evF 1).flatMap (eW b)).length := by
      show 2 < (actW b.act ++ []).length + 1 + 1
      simp [actW]
    show ({ kindE 1 (atR (itoa b.tick :: evN 1 :: (evF 1).flatMap (eW b)) 0) with act := if 2 < (itoa b.tick :: evN 1 :: (evF 1).flatMap (eW b)).length then guessA ((itoa b.tick :: evN 1 :: (evF 1).flatMap (eW b)).drop 2) else act0 } : EvC) = { kindE 1 b.tick with act := b.act }
    rw [t0, if_pos e2, e1, guess_act hs]
  · rw [hw _ e]
    conv => rhs; rw [onlyEK h e]
    have e2 : atR (itoa b.tick :: evN 2 :: (evF 2).flatMap (eW b)) 2 = b.call := atR_num rfl (z (f := 1) e (by decide))
    have e3 : atR (itoa b.tick :: evN 2 :: (evF 2).flatMap (eW b)) 3 = b.who := atR_num rfl (z (f := 0) e (by decide))
    show ({ kindE 2 (atR (itoa b.tick :: evN 2 :: (evF 2).flatMap (eW b)) 0) with call := atR (itoa b.tick :: evN 2 :: (evF 2).flatMap (eW b)) 2, who := atR (itoa b.tick :: evN 2 :: (evF 2).flatMap (eW b)) 3 } : EvC) = { kindE 2 b.tick with call := b.call, who := b.who }
    rw [t0, e2, e3]
  · rw [hw _ e]
    conv => rhs; rw [onlyEK h e]
    have e2 : atR (itoa b.tick :: evN 3 :: (evF 3).flatMap (eW b)) 2 = b.call := atR_num rfl (z (f := 1) e (by decide))
    have e3 : atR (itoa b.tick :: evN 3 :: (evF 3).flatMap (eW b)) 3 = b.who := atR_num rfl (z (f := 0) e (by decide))
    have e4 : atR (itoa b.tick :: evN 3 :: (evF 3).flatMap (eW b)) 4 = b.epoch := atR_num rfl (z (f := 2) e (by decide))
    show ({ kindE 3 (atR (itoa b.tick :: evN 3 :: (evF 3).flatMap (eW b)) 0) with call := atR (itoa b.tick :: evN 3 :: (evF 3).flatMap (eW b)) 2, who := atR (itoa b.tick :: evN 3 :: (evF 3).flatMap (eW b)) 3, epoch := atR (itoa b.tick :: evN 3 :: (evF 3).flatMap (eW b)) 4 } : EvC) = { kindE 3 b.tick with call := b.call, who := b.who, epoch := b.epoch }
    rw [t0, e2, e3, e4]
  · rw [hw _ e]
    conv => rhs; rw [onlyEK h e]
    have e2 : atR (itoa b.tick :: evN 4 :: (evF 4).flatMap (eW b)) 2 = b.call := atR_num rfl (z (f := 1) e (by decide))
    have e3 : atR (itoa b.tick :: evN 4 :: (evF 4).flatMap (eW b)) 3 = b.n := atR_num rfl (z (f := 3) e (by decide))
    show ({ kindE 4 (atR (itoa b.tick :: evN 4 :: (evF 4).flatMap (eW b)) 0) with call := atR (itoa b.tick :: evN 4 :: (evF 4).flatMap (eW b)) 2, n := atR (itoa b.tick :: evN 4 :: (evF 4).flatMap (eW b)) 3 } : EvC) = { kindE 4 b.tick with call := b.call, n := b.n }
    rw [t0, e2, e3]
  · rw [hw _ e]
    conv => rhs; rw [onlyEK h e]
    have e2 : atR (itoa b.tick :: evN 5 :: (evF 5).flatMap (eW b)) 2 = b.call := atR_num rfl (z (f := 1) e (by decide))
    show ({ kindE 5 (atR (itoa b.tick :: evN 5 :: (evF 5).flatMap (eW b)) 0) with call := atR (itoa b.tick :: evN 5 :: (evF 5).flatMap (eW b)) 2 } : EvC) = { kindE 5 b.tick with call := b.call }
    rw [t0, e2]
  · rw [hw _ e]
    conv => rhs; rw [onlyEK h e]
    have e2 : atR (itoa b.tick :: evN 6 :: (evF 6).flatMap (eW b)) 2 = b.call := atR_num rfl (z (f := 1) e (by decide))
    have e3 : atR (itoa b.tick :: evN 6 :: (evF 6).flatMap (eW b)) 3 = b.who := atR_num rfl (z (f := 0) e (by decide))
    have e4 : atR (itoa b.tick :: evN 6 :: (evF 6).flatMap (eW b)) 4 = b.epoch := atR_num rfl (z (f := 2) e (by decide))
    show ({ kindE 6 (atR (itoa b.tick :: evN 6 :: (evF 6).flatMap (eW b)) 0) with call := atR (itoa b.tick :: evN 6 :: (evF 6).flatMap (eW b)) 2, who := atR (itoa b.tick :: evN 6 :: (evF 6).flatMap (eW b)) 3, epoch := atR (itoa b.tick :: evN 6 :: (evF 6).flatMap (eW b)) 4 } : EvC) = { kindE 6 b.tick with call := b.call, who := b.who, epoch := b.epoch }
    rw [t0, e2, e3, e4]
  · rw [hw _ e]
    conv => rhs; rw [onlyEK h e]
    have e2 : atR (itoa b.tick :: evN 7 :: (evF 7).flatMap (eW b)) 2 = b.who := atR_num rfl (z (f := 0) e (by decide))
    have e3 : atR (itoa b.tick :: evN 7 :: (evF 7).flatMap (eW b)) 3 = b.n := atR_num rfl (z (f := 3) e (by decide))
    have hs := z (f := 5) e (by decide)
    have e4 : atR (itoa b.tick :: evN 7 :: (evF 7).flatMap (eW b)) 4 = b.eterm := atR_num rfl hs.1
    have e5 : atR (itoa b.tick :: evN 7 :: (evF 7).flatMap (eW b)) 5 = b.ekind := atR_num rfl hs.2
    have e6 : unhexR (hexW b.ebody) = b.ebody := unhex_hex _
    show ({ kindE 7 (atR (itoa b.tick :: evN 7 :: (evF 7).flatMap (eW b)) 0) with who := atR (itoa b.tick :: evN 7 :: (evF 7).flatMap (eW b)) 2, n := atR (itoa b.tick :: evN 7 :: (evF 7).flatMap (eW b)) 3, eterm := atR (itoa b.tick :: evN 7 :: (evF 7).flatMap (eW b)) 4, ekind := atR (itoa b.tick :: evN 7 :: (evF 7).flatMap (eW b)) 5, ebody := unhexR (hexW b.ebody) } : EvC) = { kindE 7 b.tick with who := b.who, n := b.n, eterm := b.eterm, ekind := b.ekind, ebody := b.ebody }
    rw [t0, e2, e3, e4, e5, e6]
  · rw [hw _ e]
    conv => rhs; rw [onlyEK h e]
    have e2 : atR (itoa b.tick :: evN 8 :: (evF 8).flatMap (eW b)) 2 = b.who := atR_num rfl (z (f := 0) e (by decide))
    have hs := z (f := 6) e (by decide)
    have e3 : atR (itoa b.tick :: evN 8 :: (evF 8).flatMap (eW b)) 3 = b.ord.unit := atR_num rfl hs.1
    have e4 : atR (itoa b.tick :: evN 8 :: (evF 8).flatMap (eW b)) 4 = b.ord.epoch := atR_num rfl hs.2.1
    have e5 : atR (itoa b.tick :: evN 8 :: (evF 8).flatMap (eW b)) 5 = b.ord.kind := atR_num rfl hs.2.2.1
    have e6 : atR (itoa b.tick :: evN 8 :: (evF 8).flatMap (eW b)) 6 = b.ord.incident := atR_num rfl hs.2.2.2.1
    have e7 : atR (itoa b.tick :: evN 8 :: (evF 8).flatMap (eW b)) 7 = b.ord.node := atR_num rfl hs.2.2.2.2
    show ({ kindE 8 (atR (itoa b.tick :: evN 8 :: (evF 8).flatMap (eW b)) 0) with who := atR (itoa b.tick :: evN 8 :: (evF 8).flatMap (eW b)) 2, ord := ⟨atR (itoa b.tick :: evN 8 :: (evF 8).flatMap (eW b)) 3, atR (itoa b.tick :: evN 8 :: (evF 8).flatMap (eW b)) 4, atR (itoa b.tick :: evN 8 :: (evF 8).flatMap (eW b)) 5, atR (itoa b.tick :: evN 8 :: (evF 8).flatMap (eW b)) 6, atR (itoa b.tick :: evN 8 :: (evF 8).flatMap (eW b)) 7⟩ } : EvC) = { kindE 8 b.tick with who := b.who, ord := b.ord }
    rw [t0, e2, e3, e4, e5, e6, e7]
  · rw [hw _ e]
    conv => rhs; rw [onlyEK h e]
    have e2 : atR (itoa b.tick :: evN 9 :: (evF 9).flatMap (eW b)) 2 = b.who := atR_num rfl (z (f := 0) e (by decide))
    have hs := z (f := 7) e (by decide)
    have e3 : atR (itoa b.tick :: evN 9 :: (evF 9).flatMap (eW b)) 3 = b.sta.unit := atR_num rfl hs.1
    have e4 : atR (itoa b.tick :: evN 9 :: (evF 9).flatMap (eW b)) 4 = b.sta.seq := atR_num rfl hs.2.1
    have e5 : atR (itoa b.tick :: evN 9 :: (evF 9).flatMap (eW b)) 5 = b.sta.state := atR_num rfl hs.2.2.1
    have e6 : atR (itoa b.tick :: evN 9 :: (evF 9).flatMap (eW b)) 6 = b.sta.node := atR_num rfl hs.2.2.2.1
    have e7 : atR (itoa b.tick :: evN 9 :: (evF 9).flatMap (eW b)) 7 = b.sta.epoch := atR_num rfl hs.2.2.2.2
    show ({ kindE 9 (atR (itoa b.tick :: evN 9 :: (evF 9).flatMap (eW b)) 0) with who := atR (itoa b.tick :: evN 9 :: (evF 9).flatMap (eW b)) 2, sta := ⟨atR (itoa b.tick :: evN 9 :: (evF 9).flatMap (eW b)) 3, atR (itoa b.tick :: evN 9 :: (evF 9).flatMap (eW b)) 4, atR (itoa b.tick :: evN 9 :: (evF 9).flatMap (eW b)) 5, atR (itoa b.tick :: evN 9 :: (evF 9).flatMap (eW b)) 6, atR (itoa b.tick :: evN 9 :: (evF 9).flatMap (eW b)) 7⟩ } : EvC) = { kindE 9 b.tick with who := b.who, sta := b.sta }
    rw [t0, e2, e3, e4, e5, e6, e7]
  · rw [hw _ e]
    conv => rhs; rw [onlyEK h e]
    have e2 : atR (itoa b.tick :: evN 10 :: (evF 10).flatMap (eW b)) 2 = b.who := atR_num rfl (z (f := 0) e (by decide))
    show ({ kindE 10 (atR (itoa b.tick :: evN 10 :: (evF 10).flatMap (eW b)) 0) with who := atR (itoa b.tick :: evN 10 :: (evF 10).flatMap (eW b)) 2 } : EvC) = { kindE 10 b.tick with who := b.who }
    rw [t0, e2]
  · rw [hw _ e]
    conv => rhs; rw [onlyEK h e]
    have e2 : atR (itoa b.tick :: evN 11 :: (evF 11).flatMap (eW b)) 2 = b.who := atR_num rfl (z (f := 0) e (by decide))
    show ({ kindE 11 (atR (itoa b.tick :: evN 11 :: (evF 11).flatMap (eW b)) 0) with who := atR (itoa b.tick :: evN 11 :: (evF 11).flatMap (eW b)) 2 } : EvC) = { kindE 11 b.tick with who := b.who }
    rw [t0, e2]
  · rw [hw _ e]
    conv => rhs; rw [onlyEK h e]
    have e2 : atR (itoa b.tick :: evN 12 :: (evF 12).flatMap (eW b)) 2 = b.who := atR_num rfl (z (f := 0) e (by decide))
    have e3 : atR (itoa b.tick :: evN 12 :: (evF 12).flatMap (eW b)) 3 = b.n := atR_num rfl (z (f := 3) e (by decide))
    have e4 : atR (itoa b.tick :: evN 12 :: (evF 12).flatMap (eW b)) 4 = b.epoch := atR_num rfl (z (f := 2) e (by decide))
    show ({ kindE 12 (atR (itoa b.tick :: evN 12 :: (evF 12).flatMap (eW b)) 0) with who := atR (itoa b.tick :: evN 12 :: (evF 12).flatMap (eW b)) 2, n := atR (itoa b.tick :: evN 12 :: (evF 12).flatMap (eW b)) 3, epoch := atR (itoa b.tick :: evN 12 :: (evF 12).flatMap (eW b)) 4 } : EvC) = { kindE 12 b.tick with who := b.who, n := b.n, epoch := b.epoch }
    rw [t0, e2, e3, e4]
  · rw [hw _ e]
    conv => rhs; rw [onlyEK h e]
    have e2 : atR (itoa b.tick :: evN 13 :: (evF 13).flatMap (eW b)) 2 = b.who := atR_num rfl (z (f := 0) e (by decide))
    have e3 : atR (itoa b.tick :: evN 13 :: (evF 13).flatMap (eW b)) 3 = b.n := atR_num rfl (z (f := 3) e (by decide))
    show ({ kindE 13 (atR (itoa b.tick :: evN 13 :: (evF 13).flatMap (eW b)) 0) with who := atR (itoa b.tick :: evN 13 :: (evF 13).flatMap (eW b)) 2, n := atR (itoa b.tick :: evN 13 :: (evF 13).flatMap (eW b)) 3 } : EvC) = { kindE 13 b.tick with who := b.who, n := b.n }
    rw [t0, e2, e3]
end Go.Proofs.YtakdkiggaalimaaGreatDoor
