import Derived.Test.YtfkbgfpidolhhaaFwFlt
import Derived.Laws.Small
import Derived.Laws.FloatArith
import Derived.Laws.ComplexArith
namespace Go.Fw
open Go

def RelT (L : Locs) (ts : TS) (a : Act) : Prop := ts.length = a.tmps.size ∧ ∀ i, Rv L (getL ts i) (a.tmps.getD i undef)
theorem Rv_undef (L : Locs) : Rv L undefA undef := ⟨[], rfl, rfl⟩
theorem getL_ge : ∀ (ts : TS) (i : Nat), ts.length ≤ i → getL ts i = .tup []
  | [], _, _ => rfl
  | _ :: xs, 0, h => by simp at h
  | _ :: xs, i + 1, h => getL_ge xs i (by simpa using h)
def putT (ts : TS) (d : Option Nat) (v : AV) : TS :=
  match d with
  | some d => ts.set d v
  | none => ts
theorem putK_eq (ts : TS) (d : Option Nat) (v : AV) (k : TS → Prop) : putK ts d v k = k (putT ts d v) := by
  cases d with
  | none => rfl
  | some d => exact setK_eq ts d v k
theorem RelT.ext {L L' : Locs} (hx : Ext L L') {ts : TS} {a : Act} (h : RelT L ts a) : RelT L' ts a := ⟨h.1, fun i => (h.2 i).sub hx⟩
theorem RelT.set {L : Locs} {ts : TS} {a : Act} (h : RelT L ts a) (d : Nat) {av : AV} {v : Value} (hv : Rv L av v) : RelT L (ts.set d av) (a.put (some d) v) := by
  refine ⟨by simp [Act.put, h.1], fun i => ?_⟩
  simp only [Act.put]
  by_cases hd : d < ts.length
  · rw [getL_set _ _ _ _ hd]
    by_cases hi : d = i
    · subst hi
      rw [if_pos rfl]
      have : d < a.tmps.size := by rw [← h.1]; exact hd
      simpa [Array.getD, this] using hv
    · rw [if_neg hi]
      have e : (a.tmps.setIfInBounds d v).getD i undef = a.tmps.getD i undef := by
        simp only [Array.getD_eq_getD_getElem?]
        rw [Array.getElem?_setIfInBounds_ne hi]
      rw [e]; exact h.2 i
  · have e1 : ts.set d av = ts := List.set_eq_of_length_le (by omega)
    have e2 : a.tmps.setIfInBounds d v = a.tmps := by
      rw [Array.setIfInBounds_eq_of_size_le]; rw [← h.1]; omega
    rw [e1, e2]; exact h.2 i
theorem RelT.put {L : Locs} {ts : TS} {a : Act} (h : RelT L ts a) (d : Option Nat) {av : AV} {v : Value} (hv : Rv L av v) : RelT L (putT ts d av) (a.put d v) := by
  cases d with
  | none => exact h
  | some d => exact h.set d hv

theorem canon_num {k : FloatKind} {b : Nat} (h : (k.decode b).isNaN = false) : canon k b = b := by unfold canon; rw [h]; rfl
theorem cvA_sound {v : Value} {a : AV} (L : Locs) (h : cvA v = some a) : Rv L a v := by
  unfold cvA at h
  split at h
  · split at h
    · cases h
    · rename_i hn; cases h; exact ⟨_, rfl, canon_num (by simpa using hn)⟩
  · split at h
    · cases h
    · rename_i hn; cases h
      simp only [Bool.not_eq_true, Bool.or_eq_false_iff] at hn
      exact ⟨_, _, rfl, canon_num hn.1, canon_num hn.2⟩
  · cases h; exact ⟨none, rfl, Nat.le_refl _, .inl rfl⟩
  all_goals first | (cases h; exact ⟨rfl, rfl⟩) | (cases h; done)
theorem opdA_sound {L : Locs} {ts : TS} {a : Act} (hr : RelT L ts a) {x : Operand} {d : DOpd} (h : opdA x = some d) : Rv L (evD ts d) (a.eval x) := by
  cases x with
  | tmp t => simp only [opdA, Option.some.injEq] at h; subst h; exact hr.2 t
  | const v =>
    simp only [opdA, Option.map_eq_some_iff] at h
    obtain ⟨c, h1, rfl⟩ := h
    exact cvA_sound L h1
  | global g => simp [opdA] at h
  | func f => simp only [opdA, Option.some.injEq] at h; subst h; exact ⟨[], rfl, rfl⟩

section
variable {P : Program} {w0 : World} {ow : List Nat} {Q : Exit → Act → World → Prop}
/-- what an operation leaves -/
def Post (w0 : World) (ow : List Nat) (L : Locs) (o : Oper) (a : Act) (K : AV → MS → Prop) (a' : Act) (w' : World) : Prop :=
  ∃ v av m' L', a' = a.put o.dst v ∧ Ext L L' ∧ Rv L' av v ∧ Rep w0 ow L' m' w' ∧ K av m'
theorem wp_value {o : Oper} {a : Act} {w w' : World} {next : Act → World → Prop} {v : Value} (h : (execOp a.eval o).run P w = .ok (.value v) w') (hn : next (a.put o.dst v) w') : o.wp P a w next Q := by
  unfold Oper.wp; rw [h]; exact hn
theorem wp_skip' {o : Oper} {a : Act} {w w' : World} {next : Act → World → Prop} (h : (execOp a.eval o).run P w = .ok .skip w') (hn : next (a.put o.dst undef) w') : o.wp P a w next Q := by
  unfold Oper.wp; rw [h]; exact hn
theorem wp_enter {o : Oper} {a : Act} {w w' : World} {next : Act → World → Prop} {f : FuncId} {args : Array Value} (h : (execOp a.eval o).run P w = .ok (.enter f args) w')
    (hn : Calls P f args w' fun e w'' => ∃ v, e = .returned v ∧ next (a.put o.dst v) w'') : o.wp P a w next Q := by
  unfold Oper.wp; rw [h]
  exact hn.mono fun e w'' ⟨v, he, hv⟩ => by subst he; exact hv
/-- an operation that yields a value and leaves the world -/
theorem post_pure {o : Oper} {a : Act} {w : World} {L : Locs} {m : MS} {K : AV → MS → Prop} {v : Value} {av : AV} (hR : Rep w0 ow L m w)
    (h : (execOp a.eval o).run P w = .ok (.value v) w) (hv : Rv L av v) (hK : K av m) : o.wp P a w (Post w0 ow L o a K) Q :=
  wp_value h ⟨v, av, m, L, rfl, Ext.refl L, hv, hR, hK⟩
theorem post_drew {o : Oper} {a : Act} {w : World} {L : Locs} {m : MS} {K : AV → MS → Prop} {v : Value} {av : AV} (hR : Rep w0 ow L m w)
    (h : (execOp a.eval o).run P w = .ok (.value v) w.drew) (hv : Rv L av v) (hK : K av m) : o.wp P a w (Post w0 ow L o a K) Q :=
  wp_value h ⟨v, av, m, L, rfl, Ext.refl L, hv, hR.drew, hK⟩

variable {o : Oper} {a : Act} {w : World} {L : Locs} {m : MS} {ts : TS} {K : AV → MS → Prop}

theorem s_move (hR : Rep w0 ow L m w) (hr : RelT L ts a) {x : Operand} {d : DOpd} (ho : o.op = .move x ∨ o.op = .assign x) (hx : opdA x = some d) (h : aop P w0 (.mv d) ts m K) : o.wp P a w (Post w0 ow L o a K) Q := by
  simp only [aop, evK_eq] at h
  refine post_pure hR (v := a.eval x) ?_ (opdA_sound hr hx) h
  rcases ho with ho | ho <;> simp [execOp, ho]
theorem Rs_raw {v w : Value} (h : Rv L (.raw v) w) : w = v := by
  have h1 : Rs L (.raw v) w := h
  exact h1.1
theorem Rs_flt {k : FloatKind} {x : Nat} {w : Value} (h : Rv L (.flt k x) w) : ∃ b, w = .float k b ∧ canon k b = x := h
theorem Rs_cpx {k : FloatKind} {x y : Nat} {w : Value} (h : Rv L (.cpx k x y) w) : ∃ a b, w = .complex k a b ∧ canon k a = x ∧ canon k b = y := h
theorem s_pick (hR : Rep w0 ow L m w) (hr : RelT L ts a) {c x y : Operand} {dc dx dy : DOpd} (ho : o.op = .pick c x y) (hc : opdA c = some dc) (hx : opdA x = some dx) (hy : opdA y = some dy)
    (h : aop P w0 (.pick dc dx dy) ts m K) : o.wp P a w (Post w0 ow L o a K) Q := by
  simp only [aop, evK_eq] at h
  have hcv := opdA_sound hr hc
  split at h
  · rename_i t he
    rw [he] at hcv
    have e := Rs_raw hcv
    have hrun : (execOp a.eval o).run P w = .ok (.value (if t then a.eval x else a.eval y)) w := by simp [execOp, ho, e, asBool]
    cases t with
    | true => exact post_pure hR hrun (opdA_sound hr hx) (br_t h)
    | false => exact post_pure hR hrun (opdA_sound hr hy) (br_f h)
  · exact h.elim

theorem run_eqGuard {op : BinOp} {t : TypeId} {x y : Operand} {p q : Value} (h1 : p ≠ .nilIface ∨ q ≠ .nilIface) (h2 : ∀ c, p ≠ .agg c) : (eqGuard op t x y p q).run P w = .ok () w := by
  unfold eqGuard
  cases op <;> first | rfl | skip
  all_goals cases p <;> cases q <;> first | rfl | (exact absurd rfl (h2 _)) | (simp at h1)
theorem isArith_cases {o : BinOp} (h : isArith o = false) (hs : isShift o = false) : isCmp o = true := by
  cases o <;> first | rfl | (simp [isArith] at h; done) | (simp [isShift] at hs)
theorem isFArith_cases {o : BinOp} (h : isFArith o = true) : o = .add ∨ o = .sub ∨ o = .mul ∨ o = .quo := by
  cases o <;> simp [isFArith] at h <;> simp
theorem bin_run {op : BinOp} {t : TypeId} {x y : Operand} {yt : TypeId} {a : Act} (ho : o.op = .binOp op t x y yt) {p q r : Value} {w' : World} (hp : a.eval x = p) (hq : a.eval y = q)
    (h1 : p ≠ .nilIface ∨ q ≠ .nilIface) (h2 : ∀ c, p ≠ .agg c) (h : (binOp op t p q).run P w = .ok r w') : (execOp a.eval o).run P w = .ok (.value r) w' := by
  simp only [execOp, ho, hp, hq, Sem.run_bind, run_eqGuard h1 h2, Result.andThen_ok, h, Sem.run_pure]
theorem s_bin (hR : Rep w0 ow L m w) (hr : RelT L ts a) {op : BinOp} {t yt : TypeId} {bl : Bool} {x y : Operand} {dx dy : DOpd} (ho : o.op = .binOp op t x y yt) (hbl : bl = true → P.underlying t = some .bool)
    (hx : opdA x = some dx) (hy : opdA y = some dy) (h : aop P w0 (.bin op bl dx dy) ts m K) : o.wp P a w (Post w0 ow L o a K) Q := by
  simp only [aop, evK_eq] at h
  have hxv := opdA_sound hr hx
  have hyv := opdA_sound hr hy
  split at h
  · rename_i k p k' q e1 e2
    rw [e1] at hxv; rw [e2] at hyv
    have f1 := Rs_raw hxv
    have f2 := Rs_raw hyv
    split at h
    · rename_i hs
      have h0 : 0 ≤ q := side_out h.1
      refine post_pure hR (v := .int k (shI op k p q)) (bin_run ho f1 f2 (.inl (by simp)) (by simp) ?_) (av := .raw (.int k (shI op k p q))) ⟨rfl, rfl⟩ h.2
      cases op <;> simp [isShift] at hs <;> (unfold shI; simp only [binOp, Op.shift]; rw [if_neg (by omega)]; rfl)
    · rename_i hs
      split at h
      · rename_i hk
        subst hk
        split at h
        · rename_i ha
          split at h
          · rename_i hd
            have h0 : q ≠ 0 := side_out h.1
            refine post_pure hR (v := .int k (arI op k p q)) (bin_run ho f1 f2 (.inl (by simp)) (by simp) ?_) (av := .raw (.int k (arI op k p q))) ⟨rfl, rfl⟩ h.2
            cases op <;> simp [isDiv] at hd <;> (unfold arI; simp only [binOp, Op.intDiv, ne_eq, not_true_eq_false, if_false]; rw [if_neg h0]; rfl)
          · rename_i hd
            refine post_pure hR (v := .int k (arI op k p q)) (bin_run ho f1 f2 (.inl (by simp)) (by simp) ?_) (av := .raw (.int k (arI op k p q))) ⟨rfl, rfl⟩ h
            cases op <;> simp [isArith] at ha <;> simp [isDiv] at hd <;> (unfold arI; simp [binOp, Op.intArith, Op.intBits])
        · rename_i ha
          refine post_pure hR (v := .bool (cmI op p q)) (bin_run ho f1 f2 (.inl (by simp)) (by simp) ?_) (av := .raw (.bool (cmI op p q))) ⟨rfl, rfl⟩ h
          have hc := isArith_cases ha hs
          cases op <;> simp [isCmp] at hc <;> (unfold cmI; simp [binOp, Op.intCmp])
      · exact h.elim
  · rename_i k p k' q e1 e2
    rw [e1] at hxv; rw [e2] at hyv
    obtain ⟨b1, f1, rfl⟩ := Rs_flt hxv
    obtain ⟨b2, f2, rfl⟩ := Rs_flt hyv
    split at h
    · rename_i hk
      subst hk
      split at h
      · rename_i ha
        obtain ⟨r, w', g1, g2, g3⟩ := run_farith (P := P) (w := w) op ha k b1 b2
        have hrun := bin_run (P := P) (w := w) ho f1 f2 (.inl (by simp)) (by simp) (r := .float k r) (w' := w') (by
          rw [← g1]; cases op <;> simp [isFArith] at ha <;> simp [binOp])
        rcases g3 with rfl | rfl
        · exact post_pure hR hrun (av := .flt k (arF op k (canon k b1) (canon k b2))) ⟨_, rfl, g2⟩ h
        · exact post_drew hR hrun (av := .flt k (arF op k (canon k b1) (canon k b2))) ⟨_, rfl, g2⟩ h
      · rename_i ha
        split at h
        · rename_i hc
          refine post_pure hR (v := .bool (cmF op k (canon k b1) (canon k b2))) (bin_run ho f1 f2 (.inl (by simp)) (by simp) ?_) (av := .raw (.bool (cmF op k (canon k b1) (canon k b2)))) ⟨rfl, rfl⟩ h
          rw [← run_fcmp (P := P) op hc k b1 b2]
          cases op <;> simp [isCmp] at hc <;> simp [binOp]
        · exact h.elim
    · exact h.elim
  · rename_i p q e1 e2
    rw [e1] at hxv; rw [e2] at hyv
    have f1 := Rs_raw hxv
    have f2 := Rs_raw hyv
    split at h
    · have hb := hbl rfl
      refine post_pure hR (v := .bool (eqB p q)) (bin_run ho f1 f2 (.inl (by simp)) (by simp) ?_) (av := .raw (.bool (eqB p q))) ⟨rfl, rfl⟩ h
      rw [run_eql_bool _ _ _ _ hb]; unfold eqB; rfl
    · have hb := hbl rfl
      refine post_pure hR (v := .bool (notB (eqB p q))) (bin_run ho f1 f2 (.inl (by simp)) (by simp) ?_) (av := .raw (.bool (notB (eqB p q)))) ⟨rfl, rfl⟩ h
      rw [run_neq_bool _ _ _ _ hb]; unfold eqB notB; rfl
    · exact h.elim
  · rename_i k p q k' p' q' e1 e2
    rw [e1] at hxv; rw [e2] at hyv
    obtain ⟨b1, c1, f1, rfl, rfl⟩ := Rs_cpx hxv
    obtain ⟨b2, c2, f2, rfl, rfl⟩ := Rs_cpx hyv
    split at h
    · rename_i hk
      subst hk
      have hcmp : ∀ (a b c d : Nat), (Op.Complex.cmp .eql k a b).run P w = .ok (cmF .eql k (canon k a) (canon k b)) w := fun a b c d => by
        simp [Op.Complex.cmp, run_fcmp .eql rfl, asBool]
      have har : ∀ (op : BinOp), isFArith op = true → ∀ (w1 : World) (x y : Nat), ∃ r w', (Op.Complex.arith op k x y).run P w1 = .ok r w' ∧ canon k r = arF op k (canon k x) (canon k y) ∧ (w' = w1 ∨ w' = w1.drew) := fun op hop w1 x y => by
        obtain ⟨r, w', g1, g2, g3⟩ := run_farith (P := P) (w := w1) op hop k x y
        exact ⟨r, w', by simp [Op.Complex.arith, g1], g2, g3⟩
      have hpair : ∀ (op : BinOp), isFArith op = true → (op = .add ∨ op = .sub) → K (.cpx k (arF op k (canon k b1) (canon k b2)) (arF op k (canon k c1) (canon k c2))) m →
          (binOp op t (.complex k b1 c1) (.complex k b2 c2)).run P w = ((do pure (.complex k (← Op.Complex.arith op k b1 b2) (← Op.Complex.arith op k c1 c2))) : Sem Value).run P w →
          o.op = .binOp op t x y yt → o.wp P a w (Post w0 ow L o a K) Q := by
        intro op hop _ hK hb ho'
        obtain ⟨r1, w1, g1, g2, g3⟩ := har op hop w b1 b2
        obtain ⟨r2, w2, g4, g5, g6⟩ := har op hop w1 c1 c2
        have hrun := bin_run (P := P) (w := w) ho' f1 f2 (.inl (by simp)) (by simp) (r := .complex k r1 r2) (w' := w2) (by
          rw [hb]; simp only [Sem.run_bind, g1, Result.andThen_ok, g4, Sem.run_pure])
        have hR2 : Rep w0 ow L m w2 := by
          rcases g3 with rfl | rfl <;> rcases g6 with rfl | rfl
          · exact hR
          · exact hR.drew
          · exact hR.drew
          · exact hR.drew.drew
        exact wp_value hrun ⟨_, .cpx k _ _, m, L, rfl, Ext.refl L, ⟨r1, r2, rfl, g2, g5⟩, hR2, hK⟩
      split at h
      · refine post_pure hR (v := .bool (andB _ _)) (bin_run ho f1 f2 (.inl (by simp)) (by simp) ?_) (av := .raw (.bool (andB _ _))) ⟨rfl, rfl⟩ h
        simp [binOp, Op.complexOp, hcmp b1 b2 0 0, hcmp c1 c2 0 0, andB]
      · refine post_pure hR (v := .bool (notB (andB _ _))) (bin_run ho f1 f2 (.inl (by simp)) (by simp) ?_) (av := .raw (.bool (notB (andB _ _)))) ⟨rfl, rfl⟩ h
        simp [binOp, Op.complexOp, hcmp b1 b2 0 0, hcmp c1 c2 0 0, andB, notB]
      · exact hpair .add rfl (.inl rfl) h (by simp [binOp, Op.complexOp]) ho
      · exact hpair .sub rfl (.inr rfl) h (by simp [binOp, Op.complexOp]) ho
      · exact h.elim
    · exact h.elim
  · exact h.elim
end
end Go.Fw
