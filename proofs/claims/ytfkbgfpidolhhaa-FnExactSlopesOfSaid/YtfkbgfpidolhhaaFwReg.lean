import Derived.Test.YtfkbgfpidolhhaaFwApp
namespace Go.Fw
open Go
section
variable {P : Program} {w0 : World} {ow : List Nat} {Q : Exit → Act → World → Prop}
variable {o : Oper} {a : Act} {w : World} {L : Locs} {m : MS} {ts : TS}

theorem rdK_fix : ∀ (p : List Step) (a : AV) (k : AV → Prop), rdK a p k → ∃ v, rdK a p (fun v' => v' = v) ∧ k v
  | [], a, k, h => ⟨a, rfl, h⟩
  | s :: p, a, k, h => by
    simp only [rdK] at h ⊢
    cases hc : child a s with
    | none => rw [hc] at h; exact h.elim
    | some c =>
      rw [hc] at h
      cases s with
      | fld i o => exact rdK_fix p c k h
      | idx i z =>
        obtain ⟨v, h1, h2⟩ := rdK_fix p c k h.2
        exact ⟨v, ⟨h.1, h1⟩, h2⟩
theorem rdK_mono : ∀ (p : List Step) (a : AV) (k k' : AV → Prop), (∀ v, k v → k' v) → rdK a p k → rdK a p k'
  | [], a, k, k', hk, h => hk _ h
  | s :: p, a, k, k', hk, h => by
    simp only [rdK] at h ⊢
    cases hc : child a s with
    | none => rw [hc] at h; exact h.elim
    | some c =>
      rw [hc] at h
      cases s with
      | fld i o => exact rdK_mono p c k k' hk h
      | idx i z => exact ⟨h.1, rdK_mono p c k k' hk h.2⟩
theorem fillK_fix (ts : TS) : ∀ (ps : List (Nat × Nat × Nat × DOpd)) (zs : List AV) (k : List AV → Prop), fillK ts zs ps k → ∃ v, fillK ts zs ps (fun v' => v' = v) ∧ k v
  | [], zs, k, h => ⟨zs, rfl, h⟩
  | (i, off, sz, x) :: ps, zs, k, h => by
    simp only [fillK, evK_eq, setK_eq] at h ⊢
    split at h
    · rename_i c hc
      split at h
      · rename_i h1
        split at h
        · rename_i h2
          split at h
          · rename_i h3
            obtain ⟨v, h4, h5⟩ := fillK_fix ts ps _ k h
            exact ⟨v, by simp only [h1, h2, if_true]; exact h4, h5⟩
          · exact h.elim
        · exact h.elim
      · exact h.elim
    · exact h.elim
theorem fillK_mono (ts : TS) : ∀ (ps : List (Nat × Nat × Nat × DOpd)) (zs : List AV) (k k' : List AV → Prop), (∀ v, k v → k' v) → fillK ts zs ps k → fillK ts zs ps k'
  | [], zs, k, k', hk, h => hk _ h
  | (i, off, sz, x) :: ps, zs, k, k', hk, h => by
    simp only [fillK, evK_eq, setK_eq] at h ⊢
    split at h
    · rename_i c hc
      split at h
      · rename_i h1
        split at h
        · rename_i h2
          split at h
          · rename_i h3
            simp only [h1, h2, if_true]
            exact fillK_mono ts ps _ k k' hk h
          · exact h.elim
        · exact h.elim
      · exact h.elim
    · exact h.elim
theorem callLeaf_mono {f : Nat} {args : List AV} {K K' : AV → MS → Prop} (hk : ∀ v m', K v m' → K' v m') (h : CallLeaf P w0 f args m K) : CallLeaf P w0 f args m K' := by
  have h := h.out
  refine ⟨?_⟩
  intro o L w cargs hR hv
  refine (h o L w cargs hR hv).mono ?_
  rintro e w' ⟨v, a, m', L', h1, h2, h3, h4, h5⟩
  exact ⟨v, a, m', L', h1, h2, h3, h4, hk _ _ h5⟩
theorem callVLeaf_mono {f : Value} {args : List AV} {K K' : AV → MS → Prop} (hk : ∀ v m', K v m' → K' v m') (h : CallVLeaf P w0 f args m K) : CallVLeaf P w0 f args m K' := by
  have h := h.out
  obtain ⟨f, cs, h1, h2, h⟩ := h
  refine ⟨f, cs, h1, h2, fun o L w cargs hR hv => ?_⟩
  refine (h o L w cargs hR hv).mono ?_
  rintro e w' ⟨v, a, m', L', h1, h2, h3, h4, h5⟩
  exact ⟨v, a, m', L', h1, h2, h3, h4, hk _ _ h5⟩
theorem qop_fix {op : DOp} {K : AV → Prop} (hq : quiet op = true) (h : qop P w0 op ts m K) : ∃ v, (∀ K' : AV → MS → Prop, K' v m → aop P w0 op ts m K') ∧ K v := by
  cases op with
  | call f args =>
    simp only [qop, evLK_eq] at h
    have h := h.out
    obtain ⟨v, h1, h2⟩ := h
    exact ⟨v, fun K' hk' => by simp only [aop, evLK_eq]; exact callLeaf_mono (fun v' m' hh => by obtain ⟨rfl, rfl⟩ := hh; exact hk') h1, h2⟩
  | callv x args =>
    simp only [qop, evLK_eq, evK_eq] at h
    split at h
    · rename_i f caps e
      simp only [catK_eq] at h
      obtain ⟨h0, v, h1, h2⟩ := h
      exact ⟨v, fun K' hk' => by simp only [aop, evLK_eq, evK_eq, e, catK_eq]; exact ⟨h0, callLeaf_mono (fun v' m' hh => by obtain ⟨rfl, rfl⟩ := hh; exact hk') h1⟩, h2⟩
    · rename_i u e
      have h := h.out
      obtain ⟨v, h1, h2⟩ := h
      exact ⟨v, fun K' hk' => by simp only [aop, evLK_eq, evK_eq, e]; exact callVLeaf_mono (fun v' m' hh => by obtain ⟨rfl, rfl⟩ := hh; exact hk') h1, h2⟩
    · exact h.elim
  | load ag n p =>
    simp only [qop, aop, evK_eq, getE_eq] at h ⊢
    split at h
    · rename_i id path e
      split at h
      · rename_i en he
        obtain ⟨v, h1, h2⟩ := rdK_fix _ _ _ h
        split at h2
        · rename_i h3
          split at h2
          · rename_i h4
            exact ⟨v, fun K' hk' => by exact rdK_mono _ _ _ _ (fun v' hv => by subst hv; simp only [h3, h4, if_true]; exact hk') h1, h2⟩
          · exact h2.elim
        · exact h2.elim
      · exact h.elim
    · exact h.elim
  | build zs ps =>
    simp only [qop, aop] at h ⊢
    obtain ⟨v, h1, h2⟩ := fillK_fix _ _ _ _ h
    exact ⟨.st v, fun K' hk' => fillK_mono _ _ _ _ _ (fun v' hv => by subst hv; exact hk') h1, h2⟩
  | pick c x y =>
    simp only [qop, aop, evK_eq] at h ⊢
    split at h
    · rename_i t e
      cases t with
      | true => exact ⟨_, fun _ hk' => .yes hk', br_t h⟩
      | false => exact ⟨_, fun _ hk' => .no hk', br_f h⟩
    · exact h.elim
  | mv x => simp only [qop, aop, evK_eq] at h ⊢; exact ⟨_, fun _ hk' => hk', h⟩
  | ext x i =>
    simp only [qop, aop, evK_eq, getK_eq] at h ⊢
    split at h
    · split at h
      · rename_i h1
        simp only [h1, if_true]; exact ⟨_, fun _ hk' => hk', h⟩
      · exact h.elim
    · exact h.elim
  | fad x i off =>
    simp only [qop, aop, evK_eq, snocK_eq] at h ⊢
    split at h
    · exact ⟨_, fun _ hk' => hk', h⟩
    · exact h.elim
  | iad n sz x i =>
    simp only [qop, aop, evK_eq, snocK_eq] at h ⊢
    split at h
    · exact ⟨_, fun _ hk' => ⟨h.1, hk'⟩, h.2⟩
    · exact h.elim
  | bin o bl x y =>
    simp only [qop, aop, evK_eq] at h ⊢
    split at h
    · split at h
      · exact ⟨_, fun _ hk' => ⟨h.1, hk'⟩, h.2⟩
      · split at h
        · rename_i hk
          subst hk; simp only [if_true]
          split at h
          · split at h
            · exact ⟨_, fun _ hk' => ⟨h.1, hk'⟩, h.2⟩
            · exact ⟨_, fun _ hk' => hk', h⟩
          · exact ⟨_, fun _ hk' => hk', h⟩
        · exact h.elim
    · split at h
      · rename_i hk
        subst hk; simp only [if_true]
        split at h
        · exact ⟨_, fun _ hk' => hk', h⟩
        · split at h
          · exact ⟨_, fun _ hk' => hk', h⟩
          · exact h.elim
      · exact h.elim
    · split at h
      · exact ⟨_, fun _ hk' => hk', h⟩
      · exact ⟨_, fun _ hk' => hk', h⟩
      · exact h.elim
    · split at h
      · rename_i hk
        subst hk; simp only [if_true]
        split at h
        · exact ⟨_, fun _ hk' => hk', h⟩
        · exact ⟨_, fun _ hk' => hk', h⟩
        · exact ⟨_, fun _ hk' => hk', h⟩
        · exact ⟨_, fun _ hk' => hk', h⟩
        · exact h.elim
      · exact h.elim
    · exact h.elim
  | un o x =>
    simp only [qop, aop, evK_eq] at h ⊢
    split at h
    · exact ⟨_, fun _ hk' => hk', h⟩
    · exact ⟨_, fun _ hk' => hk', h⟩
    · exact ⟨_, fun _ hk' => hk', h⟩
    · exact h.elim
  | cvI k x =>
    simp only [qop, aop, evK_eq] at h ⊢
    split at h
    · exact ⟨_, fun _ hk' => hk', h⟩
    · exact ⟨_, fun _ hk' => ⟨h.1, hk'⟩, h.2⟩
    · exact h.elim
  | cvF k x =>
    simp only [qop, aop, evK_eq] at h ⊢
    split at h
    · exact ⟨_, fun _ hk' => hk', h⟩
    · split at h
      · exact ⟨_, fun _ hk' => hk', h⟩
      · exact ⟨_, fun _ hk' => hk', h⟩
      · exact ⟨_, fun _ hk' => hk', h⟩
      · exact h.elim
    · exact h.elim
  | cvC k x =>
    simp only [qop, aop, evK_eq] at h ⊢
    split at h
    · split at h
      · exact ⟨_, fun _ hk' => hk', h⟩
      · exact h.elim
    · exact h.elim
  | ias sz x i =>
    simp only [qop, aop, evK_eq, snocK_eq] at h ⊢
    split at h
    · split at h
      · rename_i hk
        subst hk; simp only [if_true]
        exact ⟨_, fun _ hk' => ⟨h.1, hk'⟩, h.2⟩
      · exact h.elim
    · exact h.elim
  | idx n x i =>
    simp only [qop, aop, evK_eq] at h ⊢
    split at h
    · split at h
      · rename_i hk
        exact ⟨_, fun _ hk' => ⟨h.1, hk'⟩, h.2⟩
      · exact h.elim
    · exact h.elim
  | slc sz x lo hi mx =>
    simp only [qop, aop, evK_eq] at h ⊢
    split at h
    · split at h
      · split at h
        · rename_i hk
          simp only [hk, if_true]
          exact ⟨_, fun _ hk' => ⟨h.1, hk'⟩, h.2⟩
        · exact h.elim
      · exact h.elim
    · split at h
      · split at h
        · rename_i hk
          simp only [hk, if_true]
          exact ⟨_, fun _ hk' => hk', h⟩
        · exact h.elim
      · exact h.elim
    · exact h.elim
  | sla n sz x lo hi mx =>
    simp only [qop, aop, evK_eq] at h ⊢
    split at h
    · split at h
      · exact ⟨_, fun _ hk' => ⟨h.1, hk'⟩, h.2⟩
      · exact h.elim
    · exact h.elim
  | snl x =>
    simp only [qop, aop, evK_eq] at h ⊢
    split at h
    · exact ⟨_, fun _ hk' => ⟨h.1, hk'⟩, h.2⟩
    · exact h.elim
  | six bs x =>
    simp only [qop, aop, evK_eq] at h ⊢
    split at h
    · exact ⟨_, fun _ hk' => ⟨h.1, hk'⟩, h.2⟩
    · exact h.elim
  | len x | re x | im x | nck x =>
    simp only [qop, aop, evK_eq] at h ⊢
    split at h
    · exact ⟨_, fun _ hk' => hk', h⟩
    · exact h.elim
  | mkc x y =>
    simp only [qop, aop, evK_eq] at h ⊢
    split at h
    · split at h
      · rename_i hk
        subst hk; simp only [if_true]
        exact ⟨_, fun _ hk' => hk', h⟩
      · exact h.elim
    · exact h.elim
  | mxx x y | mnn x y =>
    simp only [qop, aop, evK_eq] at h ⊢
    split at h
    · exact ⟨_, fun _ hk' => hk', h⟩
    · split at h
      · rename_i hk
        subst hk; simp only [if_true]
        exact ⟨_, fun _ hk' => hk', h⟩
      · exact h.elim
    · exact h.elim
  | mkf f cs =>
    simp only [qop, aop, evLK_eq] at h ⊢
    split at h
    · rename_i hk
      simp only [hk, if_true]
      exact ⟨_, fun _ hk' => hk', h⟩
    · exact h.elim
  | mki t x =>
    simp only [qop, aop, evK_eq] at h ⊢
    split at h
    · rename_i hk
      simp only [hk, if_true]
      exact ⟨_, fun _ hk' => hk', h⟩
    · exact h.elim
  | tas x t z =>
    simp only [qop, aop, evK_eq] at h ⊢
    split at h
    · split at h
      · rename_i hk
        simp only [hk, if_true]
        exact ⟨_, fun _ hk' => hk', h⟩
      · rename_i hk
        simp only [hk, if_false]
        split at h
        · rename_i hz
          simp only [hz, if_true]
          exact ⟨_, fun _ hk' => hk', h⟩
        · exact h.elim
    · exact h.elim
  | tai x ok z =>
    simp only [qop, aop, evK_eq] at h ⊢
    split at h
    · split at h
      · rename_i hk
        simp only [hk, if_true]
        exact ⟨_, fun _ hk' => ⟨h.1, hk'⟩, h.2⟩
      · rename_i hk
        simp only [hk]
        obtain ⟨h0, h⟩ := h
        split at h
        · rename_i hz
          simp only [hz, if_true]
          exact ⟨_, fun _ hk' => ⟨h0, hk'⟩, h⟩
        · exact h.elim
    · exact h.elim
  | _ => simp [quiet] at hq
end
end Go.Fw
