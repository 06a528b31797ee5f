import Derived.Test.YtfkbgfpidolhhaaFwSwap
import Derived.Laws.Slices
namespace Go.Fw
open Go
section
variable {P : Program} {w0 : World} {ow : List Nat} {Q : Exit → Act → World → Prop}
variable {o : Oper} {a : Act} {w : World} {L : Locs} {m : MS} {ts : TS} {K : AV → MS → Prop}
theorem opt_list {α : Type} {xs : Option α} {y : List α} (h : xs.toList = y) : xs = y.head? := by
  cases xs <;> simp at h <;> subst h <;> rfl
theorem opts_none {xs : Option Operand} {ds : List DOpd} (h : allSome opdA xs.toList = some ds) (hh : ds.head? = none) : xs = none := by
  cases xs with
  | none => rfl
  | some x =>
    simp only [Option.toList, allSome] at h
    split at h
    · cases h; simp at hh
    · cases h
theorem opts_some {xs : Option Operand} {ds : List DOpd} {d : DOpd} (h : allSome opdA xs.toList = some ds) (hh : ds.head? = some d) : ∃ x, xs = some x ∧ opdA x = some d := by
  cases xs with
  | none => simp only [Option.toList, allSome, Option.some.injEq] at h; subst h; simp at hh
  | some x =>
    simp only [Option.toList, allSome] at h
    split at h
    · rename_i y ys h1 h2
      cases h
      simp at hh; subst hh
      exact ⟨x, rfl, h1⟩
    · cases h
theorem s_sla (hR : Rep w0 ow L m w) (hr : RelT L ts a) {t e : TypeId} {n : Nat} {k : Ek} {x : Operand} {lo hi mx : Option Operand} {dx : DOpd} {dlo dhi dmx : List DOpd} (ho : o.op = .slice t x lo hi mx) (hu : P.underlying t = some (.array n e)) (hk : ekOk P e = some k)
    (hx : opdA x = some dx) (hlo : allSome opdA lo.toList = some dlo) (hhi : allSome opdA hi.toList = some dhi) (hmx : allSome opdA mx.toList = some dmx) (h : aop P w0 (.sla n (eszE k) dx dlo.head? dhi.head? dmx.head?) ts m K) : o.wp P a w (Post w0 ow L o a K) Q := by
  simp only [aop, evK_eq] at h
  have hxv := opdA_sound hr hx
  obtain ⟨ti, z, hti, hz, hsz, hby, hzc⟩ := ekOk_sound hk
  have hel : P.elem t = e := by simp [Program.elem, hu]
  have hal : P.arrayLen t = n := by simp [Program.arrayLen, hu]
  have hu' : P.underlying t = some (.array (P.arrayLen t) (P.elem t)) := by rw [hu, hel, hal]
  have hso : ∀ w, (sizeOf (P.elem t)).run P w = .ok (eszE k) w := fun w => by
    rw [hel]; simp [sizeOf, typeInfo, hti, hsz]
  split at h
  · rename_i id path dh e1 e2 e3 e4
    rw [e1] at hxv
    obtain ⟨b, off, hl, hp⟩ : ∃ b o, L[id]? = some (b, o) ∧ a.eval x = .pointer (some ⟨b, o + pathOff path, none⟩) := hxv
    have := opts_none hlo e2
    subst this
    obtain ⟨y, rfl, hy⟩ := opts_some hhi e3
    have := opts_none hmx e4
    subst this
    have hyv := opdA_sound hr hy
    split at h
    · rename_i kk q e5
      rw [e5] at hyv
      have hq := Rs_raw hyv
      obtain ⟨hb, h⟩ := h
      obtain ⟨h0, h1⟩ := side_out hb
      have hrun := run_sliceAt_array_h (P := P) w t ⟨b, off + pathOff path, none⟩ hu' kk q h0 (by rw [hal]; exact h1)
      refine post_pure hR (v := .slice (some ⟨b, off + pathOff path, none⟩) q.toNat n) ?_ (av := .sl id path (eszE k) 0 (toN q) n) ⟨some ⟨b, off + pathOff path, none⟩, by rw [toN_toNat], by rw [toN_toNat]; omega, .inr ⟨b, off, hl, by simp⟩⟩ h
      simp only [execOp, ho, Option.map_some, Option.map_none, hp, hq, Sem.run_bind, hrun, hso, Result.andThen_ok, Sem.run_pure, slicedAt, hal, Nat.zero_mul, Nat.sub_zero, add_off, Nat.add_zero, ite_self]
    · exact h.elim
  · exact h.elim
theorem s_slc (hR : Rep w0 ow L m w) (hr : RelT L ts a) {t e : TypeId} {k : Ek} {x : Operand} {lo hi mx : Option Operand} {dx : DOpd} {dlo dhi dmx : List DOpd} (ho : o.op = .slice t x lo hi mx) (hu : P.underlying t = some (.slice e)) (hk : ekOk P e = some k)
    (hx : opdA x = some dx) (hlo : allSome opdA lo.toList = some dlo) (hhi : allSome opdA hi.toList = some dhi) (hmx : allSome opdA mx.toList = some dmx) (h : aop P w0 (.slc (eszE k) dx dlo.head? dhi.head? dmx.head?) ts m K) : o.wp P a w (Post w0 ow L o a K) Q := by
  simp only [aop, evK_eq] at h
  have hxv := opdA_sound hr hx
  obtain ⟨ti, z, hti, hz, hsz, hby, hzc⟩ := ekOk_sound hk
  have hel : P.elem t = e := by simp [Program.elem, hu]
  have hu' : P.underlying t = some (.slice (P.elem t)) := by rw [hu, hel]
  have hso : ∀ w, (sizeOf (P.elem t)).run P w = .ok (eszE k) w := fun w => by
    rw [hel]; simp [sizeOf, typeInfo, hti, hsz]
  split at h
  · rename_i id path esz l n c da e1 e2 e3 e4
    rw [e1] at hxv
    obtain ⟨ad, hp, hle, had⟩ := Rs_sl hxv
    obtain ⟨y, rfl, hy⟩ := opts_some hlo e2
    have := opts_none hhi e3
    subst this
    have := opts_none hmx e4
    subst this
    have hyv := opdA_sound hr hy
    split at h
    · rename_i kk q e5
      rw [e5] at hyv
      have hq := Rs_raw hyv
      split at h
      · rename_i hesz
        subst hesz
        obtain ⟨hb, h⟩ := h
        obtain ⟨h0, h1⟩ := side_out hb
        have hrun := run_slice_l (P := P) w t ad n c hu' kk q h0 h1
        have hrun2 := run_sliceAt_slice (P := P) w t (.slice ad n c) (some (.int kk q)) none none hu'
        refine post_pure hR (v := sliced ad q.toNat n c (eszE k)) ?_ (av := .sl id path (eszE k) (addN l (toN q)) (subN n (toN q)) (subN c (toN q))) ?_ h
        · simp only [execOp, ho, Option.map_some, Option.map_none, hp, hq, Sem.run_bind, hrun2, hrun, hso, Result.andThen_ok, Sem.run_pure]
        · unfold addN subN sliced
          rw [toN_toNat]
          refine ⟨_, rfl, by omega, ?_⟩
          by_cases hc : c - q.toNat = 0
          · exact .inl hc
          · obtain ⟨b, off, hl, rfl⟩ := had.resolve_left (by omega)
            refine .inr ⟨b, off, hl, ?_⟩
            rw [if_neg (by omega)]
            simp only [Option.map_some, add_off, Nat.add_mul, Nat.add_assoc]
      · exact h.elim
    · exact h.elim
  · rename_i id path esz l n c dh dm e1 e2 e3 e4
    rw [e1] at hxv
    obtain ⟨ad, hp, hle, had⟩ := Rs_sl hxv
    have := opts_none hlo e2
    subst this
    obtain ⟨y, rfl, hy⟩ := opts_some hhi e3
    obtain ⟨yy, rfl, hyy⟩ := opts_some hmx e4
    have hyv := opdA_sound hr hy
    have hyyv := opdA_sound hr hyy
    split at h
    · rename_i k1 k2 e5 e6
      rw [e5] at hyv
      rw [e6] at hyyv
      have hq := Rs_raw hyv
      have hqq := Rs_raw hyyv
      split at h
      · rename_i hesz
        subst hesz
        have hrun := run_slice_hm (P := P) w t ad n c hu' k1 k2 0 0 (Int.le_refl _) (Int.le_refl _) (by omega)
        have hrun2 := run_sliceAt_slice (P := P) w t (.slice ad n c) none (some (.int k1 0)) (some (.int k2 0)) hu'
        refine post_pure hR (v := sliced ad 0 0 0 (eszE k)) ?_ (av := .sl id path (eszE k) l 0 0) ⟨_, rfl, Nat.le_refl _, .inl rfl⟩ h
        simp only [execOp, ho, Option.map_some, Option.map_none, hp, hq, hqq, Sem.run_bind, hrun2, hrun, hso, Result.andThen_ok, Sem.run_pure, Int.toNat_zero]
      · exact h.elim
    · exact h.elim
  · exact h.elim
end
end Go.Fw
