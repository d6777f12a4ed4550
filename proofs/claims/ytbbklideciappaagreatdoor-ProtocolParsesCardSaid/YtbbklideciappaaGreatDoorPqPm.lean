/-
  samaritanref12.more at any line.
-/
import Derived.Test.YtbbklideciappaaGreatDoorPqPa
import Derived.Test.YtbbklideciappaaGreatDoorPqMa
import Derived.Test.YtbbklideciappaaGreatDoorPqMb
namespace Go.Proofs.YtbbklideciappaaGreatDoor
open Go.RowKit Go.Maps

theorem more_any (w : World) (p : Prot) (k : Nat) (h : ProtAt w w.heap.size p) (hc : CntLe p k) (hk : k ≤ 1000000000) (hn : NilOk p) (s : ByteArray) (hs : s.size ≤ 1000000000) :
    Calls Tryz.prog 32 #[.agg #[.string p.name, .int .i64 p.ver, .slice p.qA p.qs.length p.qc], .string s] w (RetMo p k s.data.toList w) := by
  have hm : p.qs.length ≤ 1000000000 := by have := hc.1; omega
  by_cases h1 : ∃ r, s.data.toList = 63 :: 32 :: r ∧ PhraseOk (bs r) 200
  · obtain ⟨r, hr, hp⟩ := h1
    exact more_ques w p k h hc hk hn s hs r hr hp
  have hq : ∀ r, s.data.toList = 63 :: 32 :: r → ¬ PhraseOk (bs r) 200 := fun r hr hp => h1 ⟨r, hr, hp⟩
  by_cases h2 : ∃ x, s.data.toList = 45 :: 32 :: x ∧ p.qs ≠ []
  · obtain ⟨x, hx, hp⟩ := h2
    obtain ⟨init, q, hq2⟩ : ∃ init q, p.qs = init ++ [q] := ⟨p.qs.dropLast, p.qs.getLast hp, (List.dropLast_concat_getLast hp).symm⟩
    have hsz : x.length + 2 = s.size := by rw [← size_len s, hx]; rfl
    by_cases h3 : 2 < s.size
    · exact more_ans_long w p k h hc hk hn s hs h3 x hx init q hq2
    · exact more_ans_short w p k h hc hk hn s hs (by omega) x hx init q hq2
  have ha : ∀ x, s.data.toList = 45 :: 32 :: x → p.qs = [] := fun x hx => Classical.byContradiction (fun hp => h2 ⟨x, hx, hp⟩)
  refine more_no w p k hm s hs hq ha (fun d hd => ?_)
  cases hd with
  | ques t hl ht => exact hq t.data.toList hl (by rwa [bs_of t] at ht)
  | ans x a hl hx hne => exact hne (show p.qs.map conQ = [] by rw [ha x hl]; rfl)
end Go.Proofs.YtbbklideciappaaGreatDoor
