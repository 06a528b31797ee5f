import Derived.Test.YtfkbgfpidolhhaaFwOp
import Derived.Laws.MakeOwn
import Derived.Laws.Cover1
namespace Go.Fw
open Go

section
variable {P : Program} {w0 : World} {ow : List Nat} {Q : Exit → Act → World → Prop}
variable {o : Oper} {a : Act} {w : World} {L : Locs} {m : MS} {ts : TS} {K : AV → MS → Prop}

theorem s_un (hR : Rep w0 ow L m w) (hr : RelT L ts a) {op : UnOp} {t : TypeId} {x : Operand} {dx : DOpd} (ho : o.op = .unOp op t x)
    (hx : opdA x = some dx) (h : aop P w0 (.un op dx) ts m K) : o.wp P a w (Post w0 ow L o a K) Q := by
  simp only [aop, evK_eq] at h
  have hxv := opdA_sound hr hx
  split at h
  · rename_i b e
    rw [e] at hxv
    have f := Rs_raw hxv
    refine post_pure hR (v := .bool (notB b)) ?_ (av := .raw (.bool (notB b))) ⟨rfl, rfl⟩ h
    simp [execOp, ho, f, Op.unary, notB]
  · rename_i k n e
    rw [e] at hxv
    have f := Rs_raw hxv
    refine post_pure hR (v := .int k (ngI k n)) ?_ (av := .raw (.int k (ngI k n))) ⟨rfl, rfl⟩ h
    simp [execOp, ho, f, Op.unary, Op.intArith, ngI]
  · rename_i k n e
    rw [e] at hxv
    obtain ⟨b, f, rfl⟩ := Rs_flt hxv
    refine post_pure hR (v := .float k (Op.negFloat k b)) ?_ (av := .flt k (ngF k (canon k b))) ⟨_, rfl, ngF_canon k b⟩ h
    simp [execOp, ho, f, Op.unary]
  · exact h.elim

theorem conv_run {s d : TypeId} {x : Operand} (ho : o.op = .convert s d x) {p r : Value} {w' : World} (hp : a.eval x = p) (h : (convert s d p).run P w = .ok r w') : (execOp a.eval o).run P w = .ok (.value r) w' := by
  simp only [execOp, ho, hp, Sem.run_bind, h, Result.andThen_ok, Sem.run_pure]
theorem run_und {t : TypeId} {d : TypeDesc} (h : P.underlying t = some d) : (underlying t).run P w = .ok d w := by
  simp [underlying, h]
theorem toInt_canon {k : FloatKind} {b : Nat} (h : ((k.decode (canon k b)).toInt .zero).isSome = true) : canon k b = b := by
  cases hn : (k.decode b).isNaN with
  | false => exact canon_num' hn
  | true =>
    rw [canon_nan hn] at h
    obtain ⟨s, t, he⟩ := (isNaN_iff _).1 (nanW_nan k)
    rw [he] at h
    cases h
theorem s_cvI (hR : Rep w0 ow L m w) (hr : RelT L ts a) {s d : TypeId} {k : IntKind} {x : Operand} {dx : DOpd} {sd : TypeDesc} (ho : o.op = .convert s d x) (hs : P.underlying s = some sd) (hd : P.underlying d = some (.int k))
    (hx : opdA x = some dx) (h : aop P w0 (.cvI k dx) ts m K) : o.wp P a w (Post w0 ow L o a K) Q := by
  simp only [aop, evK_eq] at h
  have hxv := opdA_sound hr hx
  split at h
  · rename_i k' n e
    rw [e] at hxv
    have f := Rs_raw hxv
    refine post_pure hR (v := .int k (wrI k n)) (conv_run ho f ?_) (av := .raw (.int k (wrI k n))) ⟨rfl, rfl⟩ h
    simp only [convert, Sem.run_bind, run_und hs, run_und hd, Result.andThen_ok]
    unfold wrI; rfl
  · rename_i s' n e
    rw [e] at hxv
    obtain ⟨b, f, hb⟩ := Rs_flt hxv
    obtain ⟨h1, h2, h3⟩ := side_out h.1
    have hbb : n = b := by rw [← hb] at h3 ⊢; exact toInt_canon h3
    subst hbb
    obtain ⟨z, hz⟩ := Option.isSome_iff_exists.1 h3
    have hfz : fToI s' n = z := by unfold fToI; rw [hz]; rfl
    rw [hfz] at h1 h2
    refine post_pure hR (v := .int k z) (conv_run ho f ?_) (av := .raw (.int k (fToI s' n))) ⟨by rw [hfz], rfl⟩ h.2
    simp only [convert, Sem.run_bind, run_und hs, run_und hd, Result.andThen_ok]
    simp only [Conv.floatToInt, hz]
    rw [if_pos ⟨h1, h2⟩]; rfl
  · exact h.elim
/-- a float32 made wide is no infinity -/
theorem wide_inf (b : Nat) (s : Bool) (mg : Nat) (e : Int) (h : FloatKind.f32.decode b = .number s mg e) : (FloatKind.f64.decode (FloatKind.f64.encode (.number s mg e))).isInfinity = false := by
  have h1 : mg < 2 ^ 24 ∧ -149 ≤ e ∧ e ≤ 104 := by
    have c1 : FloatKind.f32.format.binade = 8388608 := by decide
    have c2 : FloatKind.f32.format.infRung = 2139095040 := by decide
    have c3 : FloatKind.f32.format.signWeight = 2147483648 := by decide
    have c4 : FloatKind.f32.format.leastPlace = -149 := by decide
    unfold FloatKind.decode Ieee.Format.read at h
    simp only [c1, c2, c3, c4] at h
    split at h
    · cases h; omega
    · split at h
      · injection h with h1 h2 h3
        subst h2 h3
        omega
      · split at h <;> cases h
  obtain ⟨hm, he1, he2⟩ := h1
  have c1 : FloatKind.f64.format.binade = 4503599627370496 := by decide
  have c2 : FloatKind.f64.format.infRung = 9218868437227405312 := by decide
  have c3 : FloatKind.f64.format.signWeight = 9223372036854775808 := by decide
  have c4 : FloatKind.f64.format.leastPlace = -1074 := by decide
  have c5 : FloatKind.f64.format.fractionBits = 52 := by decide
  have hr : ∃ r, r < 9218868437227405312 ∧ FloatKind.f64.encode (.number s mg e) = FloatKind.f64.format.word s r := by
    unfold FloatKind.encode Ieee.Format.write Ieee.Format.nearest
    simp only [c1, c2, c4, c5]
    split
    · exact ⟨0, by omega, rfl⟩
    · rename_i hm0
      refine ⟨_, ?_, rfl⟩
      have hlog : mg.log2 ≤ 23 := by
        have := (Nat.log2_lt hm0).2 hm
        omega
      have hlast : max (e + mg.log2 - (52 : Nat)) (-1074) = e + mg.log2 - 52 := by omega
      rw [hlast]
      have hd0 : (e + mg.log2 - 52 - e).toNat = 0 := by omega
      have hsh : (e - (e + mg.log2 - 52)).toNat = 52 - mg.log2 := by omega
      rw [hd0, hsh]
      have hcut : Ieee.Toward.even.cut s (mg <<< (52 - mg.log2)) 0 = mg <<< (52 - mg.log2) := by
        unfold Ieee.Toward.cut
        simp [Nat.mod_one]
      rw [hcut]
      have hk : mg <<< (52 - mg.log2) < 2 ^ 53 := by
        rw [Nat.shiftLeft_eq]
        have h3 : mg < 2 ^ (mg.log2 + 1) := Nat.lt_log2_self
        have h4 : mg * 2 ^ (52 - mg.log2) < 2 ^ (mg.log2 + 1) * 2 ^ (52 - mg.log2) := Nat.mul_lt_mul_of_pos_right h3 (Nat.two_pow_pos _)
        rw [← Nat.pow_add] at h4
        rw [show mg.log2 + 1 + (52 - mg.log2) = 53 by omega] at h4
        exact h4
      have hp : (e + mg.log2 - 52 - (-1074)).toNat ≤ 1149 := by omega
      have hmul : (e + mg.log2 - 52 - (-1074)).toNat * 4503599627370496 ≤ 1149 * 4503599627370496 := Nat.mul_le_mul_right _ hp
      exact Nat.lt_of_le_of_lt (Nat.min_le_left _ _) (Nat.lt_of_lt_of_le (Nat.add_lt_add_of_le_of_lt hmul hk) (by decide))
  obtain ⟨r, hr1, hr2⟩ := hr
  rw [hr2]
  have hmod : FloatKind.f64.format.word s r % 9223372036854775808 = r := by
    have hlt : r < 9223372036854775808 := Nat.lt_trans hr1 (by decide)
    unfold Ieee.Format.word
    rw [c3]
    cases s with
    | true => rw [if_pos rfl, Nat.add_mod_left]; exact Nat.mod_eq_of_lt hlt
    | false => rw [if_neg (by simp)]; exact Nat.mod_eq_of_lt hlt
  unfold FloatKind.decode Ieee.Format.read
  simp only [c1, c2, c3, hmod]
  split
  · rfl
  · rfl
theorem run_f32f64 (b : Nat) : ∃ r w', (Conv.floatToFloat .f32 b .f64).run P w = .ok (.float .f64 r) w' ∧ canon .f64 r = fToF .f32 .f64 (canon .f32 b) ∧ (w' = w ∨ w' = w.drew) := by
  unfold Conv.floatToFloat fToF
  rw [if_neg (by simp), if_neg (by simp)]
  cases hd : FloatKind.f32.decode b with
  | nan s t =>
    have hn : (FloatKind.f32.decode b).isNaN = true := by rw [hd]; rfl
    obtain ⟨r, h1, h2⟩ := run_choose_nan (P := P) (w := w) .f64 (.nanConv .f64 b) (.inr (.inl ⟨b, rfl⟩))
    refine ⟨r, w.drew, by simp only [Sem.run_bind, h1, Result.andThen_ok, Sem.run_pure], ?_, .inr rfl⟩
    rw [h2, canon_nan hn]
    obtain ⟨s', t', he⟩ := (isNaN_iff _).1 (nanW_nan .f32)
    rw [he]
  | infinity s =>
    have hn : (FloatKind.f32.decode b).isNaN = false := by rw [hd]; rfl
    refine ⟨_, w, rfl, ?_, .inl rfl⟩
    rw [canon_num' hn, hd]
  | number s mg e =>
    have hn : (FloatKind.f32.decode b).isNaN = false := by rw [hd]; rfl
    refine ⟨FloatKind.f64.encode (.number s mg e), w, ?_, ?_, .inl rfl⟩
    · simp only [wide_inf b s mg e hd, Bool.false_eq_true, if_false, Sem.run_pure]
    · rw [canon_num' hn, hd]
theorem s_cvF (hR : Rep w0 ow L m w) (hr : RelT L ts a) {s d : TypeId} {k : FloatKind} {x : Operand} {dx : DOpd} {sd : TypeDesc} (ho : o.op = .convert s d x) (hs : P.underlying s = some sd) (hd : P.underlying d = some (.float k))
    (hx : opdA x = some dx) (h : aop P w0 (.cvF k dx) ts m K) : o.wp P a w (Post w0 ow L o a K) Q := by
  simp only [aop, evK_eq] at h
  have hxv := opdA_sound hr hx
  split at h
  · rename_i k' n e
    rw [e] at hxv
    have f := Rs_raw hxv
    refine post_pure hR (v := .float k (k.nearest n)) (conv_run ho f ?_) (av := .flt k (iToF k n)) ⟨_, rfl, by unfold iToF; rfl⟩ h
    simp only [convert, Sem.run_bind, run_und hs, run_und hd, Result.andThen_ok]
    rfl
  · rename_i s' n e
    rw [e] at hxv
    obtain ⟨b, f, rfl⟩ := Rs_flt hxv
    have hsame : ∀ (k0 : FloatKind), P.underlying d = some (.float k0) → a.eval x = .float k0 b → K (.flt k0 (canon k0 b)) m → o.wp P a w (Post w0 ow L o a K) Q := by
      intro k0 hd0 f0 hK0
      refine post_pure hR (v := .float k0 b) (conv_run ho f0 ?_) (av := .flt k0 (canon k0 b)) ⟨_, rfl, rfl⟩ hK0
      simp only [convert, Sem.run_bind, run_und hs, run_und hd0, Result.andThen_ok, Conv.floatToFloat, if_true, Sem.run_pure]
    split at h
    · obtain ⟨r, w', g1, g2, g3⟩ := run_f32f64 (P := P) (w := w) b
      have hrun := conv_run (P := P) (w := w) ho f (r := .float .f64 r) (w' := w') (by
        simp only [convert, Sem.run_bind, run_und hs, run_und hd, Result.andThen_ok]; exact g1)
      rcases g3 with rfl | rfl
      · exact post_pure hR hrun (av := .flt .f64 _) ⟨_, rfl, g2⟩ h
      · exact post_drew hR hrun (av := .flt .f64 _) ⟨_, rfl, g2⟩ h
    · exact hsame _ hd f h
    · exact hsame _ hd f h
    · exact h.elim
  · exact h.elim
theorem s_cvC (hR : Rep w0 ow L m w) (hr : RelT L ts a) {s d : TypeId} {k : FloatKind} {x : Operand} {dx : DOpd} {sd : TypeDesc} (ho : o.op = .convert s d x) (hs : P.underlying s = some sd) (hd : P.underlying d = some (.complex k))
    (hx : opdA x = some dx) (h : aop P w0 (.cvC k dx) ts m K) : o.wp P a w (Post w0 ow L o a K) Q := by
  simp only [aop, evK_eq] at h
  have hxv := opdA_sound hr hx
  split at h
  · rename_i s' p q e
    rw [e] at hxv
    obtain ⟨b, c, f, rfl, rfl⟩ := Rs_cpx hxv
    split at h
    · obtain ⟨r, w1, g1, g2, g3⟩ := run_f32f64 (P := P) (w := w) b
      obtain ⟨r2, w2, g4, g5, g6⟩ := run_f32f64 (P := P) (w := w1) c
      have hrun := conv_run (P := P) (w := w) ho f (r := .complex .f64 r r2) (w' := w2) (by
        simp only [convert, Sem.run_bind, run_und hs, run_und hd, Result.andThen_ok, Conv.complexToComplex, g1, g4, Sem.run_pure])
      have hR2 : Rep w0 ow L m w2 := by
        rcases g3 with rfl | rfl <;> rcases g6 with rfl | rfl
        · exact hR
        · exact hR.drew
        · exact hR.drew
        · exact hR.drew.drew
      exact wp_value hrun ⟨_, .cpx .f64 _ _, m, L, rfl, Ext.refl L, ⟨r, r2, rfl, g2, g5⟩, hR2, h⟩
    · exact h.elim
  · exact h.elim
end
end Go.Fw
