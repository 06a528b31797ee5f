import Derived.Test.YtfkbgfpidolhhaaFwLoop
namespace Go.Fw
open Go
section
variable {L : Locs}
theorem getElem?_some_lt {α : Type} {l : List α} {i : Nat} {x : α} (h : l[i]? = some x) : i < l.length := getElem?_lt h
mutual
theorem Rs.ids : ∀ (a : AV) (w : Value), Rs L a w → idsOk (fun j => j < L.length) a
  | .raw _, _, _ => by simp [idsOk]
  | .flt _ _, _, _ => by simp [idsOk]
  | .cpx _ _ _, _, _ => by simp [idsOk]
  | .ptr _ _, _, ⟨b, o, h1, h2⟩ => getElem?_lt h1
  | .sl _ _ _ _ _ _, _, ⟨a, h1, h2, h3⟩ => by
    simp only [idsOk]
    rcases h3 with h3 | ⟨b, o, h4, h5⟩
    · exact .inr h3
    · exact .inl (getElem?_lt h4)
  | .fn _ caps, _, ⟨cs, h1, h2⟩ => RsL.ids caps cs h2
  | .ifc _ x, _, ⟨v, h1, h2⟩ => Rs.ids x v h2
  | .st _, _, h => by simp [Rs] at h
  | .ai _ _, _, h => by simp [Rs] at h
  | .af _ _, _, h => by simp [Rs] at h
  | .ac _ _, _, h => by simp [Rs] at h
  | .ap _ _, _, h => by simp [Rs] at h
  | .tup _, _, h => by simp [Rs] at h
  | .junk, _, h => by simp [Rs] at h
theorem RsL.ids : ∀ (a : List AV) (w : List Value), RsL L a w → idsOkL (fun j => j < L.length) a
  | [], _, _ => trivial
  | x :: xs, _, ⟨v, r, _, h2, h3⟩ => ⟨Rs.ids x v h2, RsL.ids xs r h3⟩
end
mutual
theorem Fl.ids : ∀ (a : AV) (cs : List Value), Fl L a cs → idsOk (fun j => j < L.length) a
  | .st fs, cs, h => by simp only [Fl] at h; exact FlL.ids fs cs h
  | .ai _ _, _, _ => by simp [idsOk]
  | .af _ _, _, _ => by simp [idsOk]
  | .ac _ _, _, _ => by simp [idsOk]
  | .ap _ _, _, _ => by simp [idsOk]
  | .tup _, _, h => by simp [Fl] at h
  | .raw _, _, ⟨v, h1, h2⟩ => Rs.ids _ _ h2
  | .flt _ _, _, ⟨v, h1, h2⟩ => Rs.ids _ _ h2
  | .cpx _ _ _, _, ⟨v, _, h2⟩ => Rs.ids _ _ h2
  | .ptr _ _, _, ⟨v, h1, h2⟩ => Rs.ids _ _ h2
  | .sl _ _ _ _ _ _, _, ⟨v, h1, h2⟩ => Rs.ids _ _ h2
  | .fn _ _, _, ⟨v, h1, h2⟩ => Rs.ids _ _ h2
  | .ifc _ _, _, ⟨v, h1, h2⟩ => Rs.ids _ _ h2
  | .junk, _, ⟨v, h1, h2⟩ => by simp [Rs] at h2
theorem FlL.ids : ∀ (a : List AV) (cs : List Value), FlL L a cs → idsOkL (fun j => j < L.length) a
  | [], _, _ => trivial
  | x :: xs, _, ⟨c, r, _, h2, h3⟩ => ⟨Fl.ids x c h2, FlL.ids xs r h3⟩
end
end
/-- A call that answers what speaks of no block, and that leaves what was there: its own blocks are forgotten. -/
theorem call_keep {P : Program} {w0 : World} {f : Nat} {args : List AV} {m : MS} {K : AV → MS → Prop} (h : CallLeaf P w0 f args m fun v m' => m'.take m.length = m ∧ below 0 v = true ∧ K v m) : CallLeaf P w0 f args m K := by
  have h := h.out
  refine ⟨?_⟩
  intro o L w cargs hR hv
  refine (h o L w cargs hR hv).mono ?_
  rintro e w' ⟨v, a, m', L', rfl, hx, h2, h3, hm, hb, hk⟩
  have hlen : L.length ≤ L'.length := by
    rcases Nat.eq_zero_or_pos L.length with h0 | h0
    · omega
    · have := hx (L.length - 1) _ (List.getElem?_eq_getElem (by omega))
      have := getElem?_lt this
      omega
  have hLt : L'.take m.length = L := by
    apply List.ext_getElem?
    intro i
    rw [← hR.len, List.getElem?_take]
    split
    · rename_i hi
      rw [List.getElem?_eq_getElem hi]
      exact hx i _ (List.getElem?_eq_getElem hi)
    · rename_i hi; rw [List.getElem?_eq_none (by omega)]
  have hag : Agree (fun j => j < L.length) L' L := fun j p hj hp => by
    rw [← hLt, List.getElem?_take, if_pos (by rw [← hR.len]; exact hj)]; exact hp
  refine ⟨v, a, m, L, rfl, Ext.refl L, ?_, ?_, hk⟩
  · have h0 := below_ok 0 _ hb
    exact h2.swap (S := fun j => j < 0) (fun j p hj hp => absurd hj (by omega)) h0
  · refine h3.reindex (fun k => k) hR.len (fun k e hk => ?_) (fun k p hk => hx k p hk) (fun _ _ _ _ h => h) (fun k e cs hk hf => ?_)
    · rw [← hm, List.getElem?_take] at hk
      split at hk
      · exact hk
      · cases hk
    · obtain ⟨p, hp⟩ := hR.loc hk
      obtain ⟨cs0, g1, _⟩ := (hR.ok k e p hk hp).cells
      exact hf.swap hag _ _ (Fl.ids _ _ g1)
theorem q_keep {P : Program} {w0 : World} {f : Nat} {args : List AV} {m : MS} {K : AV → Prop} (v : AV) (h : ∀ K' : AV → MS → Prop, K' v m → CallLeaf P w0 f args m K') (hK : K v) : QLeaf P w0 f args m K := by
  exact ⟨v, h _ ⟨rfl, rfl⟩, hK⟩
/-- a memory with one block turned, closed to unfolding -/
@[irreducible] def setM (m : MS) (i : Nat) (e : Ent) : MS := m.set i e
theorem setEK_M (m : MS) (i : Nat) (e : Ent) (k : MS → Prop) : setEK m i e k = k (setM m i e) := by rw [setEK_eq]; unfold setM; rfl
theorem getE_set {m : MS} {i : Nat} {e e' : Ent} (h : getE m i = some e) : getE (setM m i e') i = some e' := by
  unfold setM
  rw [getE_eq] at h ⊢
  rw [List.getElem?_set_self (getElem?_lt h)]
theorem set_set_ms (m : MS) (i : Nat) (e e' : Ent) : setM (setM m i e) i e' = setM m i e' := by unfold setM; simp
theorem setM_self {m : MS} {i : Nat} {e : Ent} (h : getE m i = some e) : setM m i e = m := by
  unfold setM
  rw [getE_eq] at h
  apply List.ext_getElem?
  intro q
  by_cases hq : i = q
  · subst hq; rw [List.getElem?_set_self (getElem?_lt h)]; exact h.symm
  · rw [List.getElem?_set_ne hq]
end Go.Fw
