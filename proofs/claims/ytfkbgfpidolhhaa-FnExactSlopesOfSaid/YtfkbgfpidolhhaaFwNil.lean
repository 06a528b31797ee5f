import Derived.Test.YtfkbgfpidolhhaaFwArg
namespace Go.Fw
open Go
theorem RvL.swap {S : Nat → Prop} {L L' : Locs} (hs : Agree S L L') : ∀ (a : List AV) (w : List Value), idsOkL S a → RvL L a w → RvL L' a w
  | [], _, _, h => h
  | x :: xs, _, hi, ⟨v, r, h1, h2, h3⟩ => by
    simp only [idsOkL] at hi
    exact ⟨v, r, h1, h2.swap hs hi.1, RvL.swap hs xs r hi.2 h3⟩
/-- A call whose arguments speak of no block, and whose answer speaks of none: its walk may begin in an empty memory. -/
theorem call_nil {P : Program} {w0 : World} {f : Nat} {args : List AV} {m : MS} {K : AV → MS → Prop} (hb : belowL 0 args = true) (h : ∀ w0, CallLeaf P w0 f args [] fun v _ => below 0 v = true ∧ K v m) : CallLeaf P w0 f args m K := by
  refine ⟨?_⟩
  intro o L w cargs hR hv
  have hv0 : RvL [] args cargs := RvL.swap (S := fun j => j < 0) (fun j p hj hp => absurd hj (by omega)) _ _ (belowL_ok 0 _ hb) hv
  refine ((h w).out [] [] w cargs (rep_none w) hv0).mono ?_
  rintro e w' ⟨v, a, m', L', rfl, hx, h2, h3, hbv, hk⟩
  refine ⟨v, a, m, L, rfl, Ext.refl L, ?_, hR.grown h3.grow, hk⟩
  exact h2.swap (S := fun j => j < 0) (fun j p hj hp => absurd hj (by omega)) (below_ok 0 _ hbv)
end Go.Fw
