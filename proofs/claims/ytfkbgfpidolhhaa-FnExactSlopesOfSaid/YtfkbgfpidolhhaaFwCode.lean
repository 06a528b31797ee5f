import Derived.Test.YtfkbgfpidolhhaaFwReg8
import Derived.LoopN
namespace Go.Fw
open Go
section
variable {P : Program} {w0 : World} {ow : List Nat}

def QE (w0 : World) (ow : List Nat) (L0 : Locs) (K : DExit → TS → MS → Prop) : Exit → Act → World → Prop
  | .normal, a, w => Good w0 ow L0 (K .normal) a w
  | .ret, a, w => Good w0 ow L0 (K .ret) a w
  | .exit i, a, w => Good w0 ow L0 (K (.exit i)) a w
  | _, _, _ => False
theorem awp_sound (hm : P.follows .mixedOrders = true) {L0 : Locs} : ∀ (c : Code) (d : DCode) (L : Locs) (ts : TS) (m : MS) (a : Act) (w : World) (K : DExit → TS → MS → Prop),
    decCode P c = some d → Ext L0 L → a.defers = [] → RelT L ts a → Rep w0 ow L m w → awp P w0 L0.length d ts m K → c.wp P (QE w0 ow L0 K) a w
  | .skip, d, L, ts, m, a, w, K, hd, hx, hdf, hr, hR, h => by
    simp only [decCode, Option.some.injEq] at hd; subst hd
    exact wp_skip ⟨hdf, L, ts, m, hx, hr, hR, h⟩
  | .exit i, d, L, ts, m, a, w, K, hd, hx, hdf, hr, hR, h => by
    simp only [decCode, Option.some.injEq] at hd; subst hd
    exact wp_exit ⟨hdf, L, ts, m, hx, hr, hR, h⟩
  | .ret, d, L, ts, m, a, w, K, hd, hx, hdf, hr, hR, h => by
    simp only [decCode, Option.some.injEq] at hd; subst hd
    exact wp_ret ⟨hdf, L, ts, m, hx, hr, hR, h⟩
  | .region id ops draw, d, L, ts, m, a, w, K, hd, hx, hdf, hr, hR, h => by
    simp only [decCode] at hd
    split at hd
    · rename_i l hl
      cases draw with
      | true =>
        simp only [if_true] at hd
        exact draw_sound hm hl hd hx hdf hr hR h (fun a w hg => hg)
      | false =>
        simp only [Bool.false_eq_true, if_false, Option.some.injEq] at hd
        subst hd
        simp only [awp] at h
        exact region_text hl hx hdf hr hR h (fun a w hg => hg)
    · cases hd
  | .seq x y, d, L, ts, m, a, w, K, hd, hx, hdf, hr, hR, h => by
    simp only [decCode] at hd
    split at hd
    · rename_i dx dy h1 h2
      cases hd
      simp only [awp] at h
      refine wp_seq ?_
      refine wp_mono (awp_sound hm x dx L ts m a w _ h1 hx hdf hr hR h) ?_
      intro e a' w' hq
      cases e with
      | normal =>
        obtain ⟨hdf', L', ts', m', hx', hr', hR', hk⟩ := hq
        exact awp_sound hm y dy L' ts' m' a' w' K h2 hx' hdf' hr' hR' hk
      | ret => exact hq
      | exit i => exact hq
      | _ => exact hq.elim
    · cases hd
  | .cond c x y, d, L, ts, m, a, w, K, hd, hx, hdf, hr, hR, h => by
    simp only [decCode] at hd
    split at hd
    · rename_i dc dx dy h0 h1 h2
      cases hd
      simp only [awp, evK_eq] at h
      split at h
      · rename_i b e
        have hv := opdA_sound hr h0
        rw [e] at hv
        refine wp_cond_split (Rs_raw hv) (fun hb => ?_) (fun hb => ?_)
        · subst hb; exact awp_sound hm x dx L ts m a w K h1 hx hdf hr hR (br_t h)
        · subst hb; exact awp_sound hm y dy L ts m a w K h2 hx hdf hr hR (br_f h)
      · exact h.elim
    · cases hd
  | .block i x, d, L, ts, m, a, w, K, hd, hx, hdf, hr, hR, h => by
    simp only [decCode, Option.map_eq_some_iff] at hd
    obtain ⟨dx, h1, rfl⟩ := hd
    simp only [awp] at h
    refine wp_block ?_
    refine wp_mono (awp_sound hm x dx L ts m a w _ h1 hx hdf hr hR h) ?_
    intro e a' w' hq
    cases e with
    | normal => exact hq
    | ret => exact hq
    | exit j =>
      obtain ⟨hdf', L', ts', m', hx', hr', hR', hk⟩ := hq
      simp only [Exit.inBlock]
      by_cases hj : j = i
      · simp only [hj, if_true] at hk ⊢
        exact ⟨hdf', L', ts', m', hx', hr', hR', hk⟩
      · simp only [hj, if_false] at hk ⊢
        exact ⟨hdf', L', ts', m', hx', hr', hR', hk⟩
    | _ => exact hq.elim
  | .loop x, d, L, ts, m, a, w, K, hd, hx, hdf, hr, hR, h => by
    simp only [decCode, Option.map_eq_some_iff] at hd
    obtain ⟨dx, h1, rfl⟩ := hd
    simp only [awp] at h
    have h := h.out
    obtain ⟨n, h⟩ := h
    refine wp_loop_rounds n ?_
    have key : ∀ n L ts m a w, Ext L0 L → a.defers = [] → RelT L ts a → Rep w0 ow L m w → rounds L0.length (fun ts m K => awp P w0 L0.length dx ts m K) K n ts m → Code.rounds P x (QE w0 ow L0 K) n a w := by
      intro n
      induction n with
      | zero => intro L ts m a w _ _ _ _ h; exact h.elim
      | succ n ih =>
        intro L ts m a w hx hdf hr hR h
        rw [rounds_succ]
        simp only [rounds] at h
        obtain ⟨ts', m', hw, ht, h⟩ := h
        have hr := weak_sound hw hr
        obtain ⟨L, hx, hr, hR⟩ := trim_sound hx hr hR ht
        refine wp_mono (awp_sound hm x dx L _ _ a w _ h1 hx hdf hr hR h) ?_
        intro e a' w' hq
        cases e with
        | normal =>
          obtain ⟨hdf', L', ts', m', hx', hr', hR', hk⟩ := hq
          exact ih L' ts' m' a' w' hx' hdf' hr' hR' hk
        | ret => exact hq
        | exit i => exact hq
        | _ => exact hq.elim
    exact key n L ts m a w hx hdf hr hR h
  | .label _, d, L, ts, m, a, w, K, hd, hx, hdf, hr, hR, h => by simp [decCode] at hd
  | .goto _, d, L, ts, m, a, w, K, hd, hx, hdf, hr, hR, h => by simp [decCode] at hd
  | .scope .., d, L, ts, m, a, w, K, hd, hx, hdf, hr, hR, h => by simp [decCode] at hd
end
end Go.Fw
