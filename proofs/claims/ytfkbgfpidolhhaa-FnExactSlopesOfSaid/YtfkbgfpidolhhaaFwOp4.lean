import Derived.Test.YtfkbgfpidolhhaaFwOp3
namespace Go.Fw
open Go

section
variable {P : Program} {w0 : World} {ow : List Nat} {Q : Exit → Act → World → Prop}
variable {o : Oper} {a : Act} {w : World} {L : Locs} {m : MS} {ts : TS} {K : AV → MS → Prop}

theorem map_lists (xs : Array Operand) (f : Operand → Value) : xs.map f = (xs.toList.map f).toArray := by
  apply Array.ext'
  simp
theorem call_builtin {c : Call} {b : Builtin} {v : Value} {w' : World} (ho : o.op = .call c) (hb : c.callee = .builtin b)
    (h : (builtin b c.argTypes o.type (c.args.map fun | .const _ => true | _ => false) (c.args.map a.eval)).run P w = .ok (.value v) w') : (execOp a.eval o).run P w = .ok (.value v) w' := by
  simp only [execOp, ho, resolve, hb, Sem.run_bind, Sem.run_pure, Result.andThen_ok, invoke]
  exact h
theorem allSome_eval (hr : RelT L ts a) : ∀ (xs : List Operand) (ds : List DOpd), allSome opdA xs = some ds → RvL L (ds.map (evD ts)) (xs.map a.eval)
  | [], ds, h => by simp only [allSome, Option.some.injEq] at h; subst h; rfl
  | x :: xs, ds, h => by
    simp only [allSome] at h
    split at h
    · rename_i y ys h1 h2
      cases h
      exact ⟨_, _, rfl, opdA_sound hr h1, allSome_eval hr xs ys h2⟩
    · cases h
theorem RvL_length : ∀ {as : List AV} {vs : List Value}, RvL L as vs → as.length = vs.length
  | [], _, h => by simp [RvL] at h; simp [h]
  | _ :: _, _, ⟨_, _, h1, _, h3⟩ => by simp [h1, RvL_length h3]
theorem RvL_append : ∀ {as bs : List AV} {vs us : List Value}, RvL L as vs → RvL L bs us → RvL L (as ++ bs) (vs ++ us)
  | [], _, _, _, h, h' => by simp only [RvL] at h; subst h; exact h'
  | _ :: _, _, _, _, ⟨v, r, h1, h2, h3⟩, h' => ⟨v, r ++ _, by rw [h1]; rfl, h2, RvL_append h3 h'⟩
theorem RsL_RvL : ∀ {as : List AV} {vs : List Value}, RsL L as vs → RvL L as vs
  | [], _, h => h
  | a :: _, _, ⟨v, r, h1, h2, h3⟩ => ⟨v, r, h1, Rv_of_Rn (Rn_of_scalar (by cases a <;> first | rfl | simp [Rs] at h2) h2), RsL_RvL h3⟩

theorem s_call (hR : Rep w0 ow L m w) (hr : RelT L ts a) {c : Call} {f : Nat} {ds : List DOpd} (ho : o.op = .call c) (hc : c.callee = .value (.func f)) (hf : fnHas P f = true)
    (hx : allSome opdA c.args.toList = some ds) (h : aop P w0 (.call f ds) ts m K) : o.wp P a w (Post w0 ow L o a K) Q := by
  simp only [aop, evLK_eq] at h
  have hv := allSome_eval hr _ _ hx
  have h := h.out
  have hcall := h ow L w _ hR hv
  have hargs : c.args.map a.eval = (c.args.toList.map a.eval).toArray := map_lists _ _
  refine wp_enter (w' := w) (f := f) (args := (c.args.toList.map a.eval).toArray) ?_ ?_
  · unfold fnHas at hf
    split at hf
    · rename_i fn hfn
      simp only [Bool.and_eq_true, bne_iff_ne, ne_eq] at hf
      have hb : fn.body.isNone = false := by
        have h0 := hf.1
        cases hbb : fn.body with
        | none => rw [hbb] at h0; cases h0
        | some _ => rfl
      simp only [execOp, ho, resolve, hc, Act.eval, Deferred.ofValue, Sem.run_bind, Sem.run_pure, Result.andThen_ok, invoke, callFunc, run_program, hfn]
      rw [if_neg (by rw [beq_iff_eq]; exact hf.2), if_neg (by rw [hb]; simp)]
      simp [hargs]
    · cases hf
  · refine hcall.mono ?_
    rintro e w'' ⟨v, av, m', L', he, h1, h2, h3, h4⟩
    exact ⟨v, he, v, av, m', L', rfl, h1, h2, h3, h4⟩
theorem s_callv (hR : Rep w0 ow L m w) (hr : RelT L ts a) {c : Call} {x : Operand} {dx : DOpd} {ds : List DOpd} (ho : o.op = .call c) (hc : c.callee = .value x) (hx0 : opdA x = some dx)
    (hx : allSome opdA c.args.toList = some ds) (h : aop P w0 (.callv dx ds) ts m K) : o.wp P a w (Post w0 ow L o a K) Q := by
  simp only [aop, evK_eq, evLK_eq] at h
  have hv := allSome_eval hr _ _ hx
  have hxv := opdA_sound hr hx0
  have hargs : c.args.map a.eval = (c.args.toList.map a.eval).toArray := map_lists _ _
  have key : ∀ (f : Nat) (cs : Array Value), a.eval x = .func (.func f) #[] cs → fnHas P f = true → (execOp a.eval o).run P w = .ok (.enter f ((c.args.toList.map a.eval).toArray ++ cs)) w := by
    intro f cs he hf
    unfold fnHas at hf
    split at hf
    · rename_i fn hfn
      simp only [Bool.and_eq_true, bne_iff_ne, ne_eq] at hf
      have hb : fn.body.isNone = false := by
        have h0 := hf.1
        cases hbb : fn.body with
        | none => rw [hbb] at h0; cases h0
        | some _ => rfl
      simp only [execOp, ho, resolve, hc, he, Deferred.ofValue, Sem.run_bind, Sem.run_pure, Result.andThen_ok, invoke, callFunc, run_program, hfn]
      rw [if_neg (by rw [beq_iff_eq]; exact hf.2), if_neg (by rw [hb]; simp)]
      simp [hargs]
    · cases hf
  split at h
  · rename_i f caps e
    rw [e] at hxv
    obtain ⟨cs, he, hcs⟩ := (show Rs L (.fn f caps) (a.eval x) from hxv)
    obtain ⟨hf, h⟩ := h
    simp only [catK_eq] at h
    have h := h.out
    have hcall := h ow L w _ hR (RvL_append hv (RsL_RvL hcs))
    refine wp_enter (key f cs.toArray he (side_out hf)) ?_
    have e2 : (c.args.toList.map a.eval).toArray ++ cs.toArray = (c.args.toList.map a.eval ++ cs).toArray := by simp
    rw [e2]
    refine hcall.mono ?_
    rintro e w'' ⟨v, av, m', L', he, h1, h2, h3, h4⟩
    exact ⟨v, he, v, av, m', L', rfl, h1, h2, h3, h4⟩
  · rename_i fv e
    rw [e] at hxv
    have he := Rs_raw hxv
    have h := h.out
    obtain ⟨f, cs, rfl, hf, h⟩ := h
    have hcall := h ow L w _ hR hv
    refine wp_enter (key f cs he hf) ?_
    refine hcall.mono ?_
    rintro e w'' ⟨v, av, m', L', he, h1, h2, h3, h4⟩
    exact ⟨v, he, v, av, m', L', rfl, h1, h2, h3, h4⟩
  · exact h.elim
theorem s_len (hR : Rep w0 ow L m w) (hr : RelT L ts a) {c : Call} {x : Operand} {dx : DOpd} {e : TypeId} (ho : o.op = .call c) (hc : c.callee = .builtin .len) (ha : c.args.toList = [x])
    (ht : (c.argTypes[0]?).bind P.underlying = some (.slice e)) (hx : opdA x = some dx) (h : aop P w0 (.len dx) ts m K) : o.wp P a w (Post w0 ow L o a K) Q := by
  simp only [aop, evK_eq] at h
  have hxv := opdA_sound hr hx
  split at h
  · rename_i id p esz lo n cap e1
    rw [e1] at hxv
    obtain ⟨ad, hp, _, _⟩ := Rs_sl hxv
    refine post_pure hR (v := .int .i64 n) (call_builtin ho hc ?_) (av := .raw (.int .i64 n)) ⟨rfl, rfl⟩ h
    have hargs : c.args.map a.eval = #[a.eval x] := by
      have : c.args = #[x] := by rw [← Array.toArray_toList (xs := c.args), ha]
      rw [this]; simp
    rw [hargs]
    cases hty : c.argTypes[0]? with
    | none => rw [hty] at ht; cases ht
    | some t =>
      rw [hty] at ht
      have hu : P.underlying t = some (.slice e) := ht
      rw [hp]
      simp [builtin, Builtin.len_, hty, run_und hu, goInt]
  · exact h.elim
theorem args1 {c : Call} {x : Operand} (ha : c.args.toList = [x]) : c.args.map a.eval = #[a.eval x] := by
  have : c.args = #[x] := by rw [← Array.toArray_toList (xs := c.args), ha]
  rw [this]; simp
theorem args2 {c : Call} {x y : Operand} (ha : c.args.toList = [x, y]) : c.args.map a.eval = #[a.eval x, a.eval y] := by
  have : c.args = #[x, y] := by rw [← Array.toArray_toList (xs := c.args), ha]
  rw [this]; simp
theorem s_re (hR : Rep w0 ow L m w) (hr : RelT L ts a) {c : Call} {x : Operand} {dx : DOpd} (ho : o.op = .call c) (hc : c.callee = .builtin .real) (ha : c.args.toList = [x])
    (hx : opdA x = some dx) (h : aop P w0 (.re dx) ts m K) : o.wp P a w (Post w0 ow L o a K) Q := by
  simp only [aop, evK_eq] at h
  have hxv := opdA_sound hr hx
  split at h
  · rename_i k p q e1
    rw [e1] at hxv
    obtain ⟨b1, b2, hp, rfl, rfl⟩ := Rs_cpx hxv
    refine post_pure hR (v := .float k b1) (call_builtin ho hc ?_) (av := .flt k _) ⟨b1, rfl, rfl⟩ h
    rw [args1 ha, hp]
    rfl
  · exact h.elim
theorem s_im (hR : Rep w0 ow L m w) (hr : RelT L ts a) {c : Call} {x : Operand} {dx : DOpd} (ho : o.op = .call c) (hc : c.callee = .builtin .imag) (ha : c.args.toList = [x])
    (hx : opdA x = some dx) (h : aop P w0 (.im dx) ts m K) : o.wp P a w (Post w0 ow L o a K) Q := by
  simp only [aop, evK_eq] at h
  have hxv := opdA_sound hr hx
  split at h
  · rename_i k p q e1
    rw [e1] at hxv
    obtain ⟨b1, b2, hp, rfl, rfl⟩ := Rs_cpx hxv
    refine post_pure hR (v := .float k b2) (call_builtin ho hc ?_) (av := .flt k _) ⟨b2, rfl, rfl⟩ h
    rw [args1 ha, hp]
    rfl
  · exact h.elim
theorem s_mkc (hR : Rep w0 ow L m w) (hr : RelT L ts a) {c : Call} {x y : Operand} {dx dy : DOpd} (ho : o.op = .call c) (hc : c.callee = .builtin .complex) (ha : c.args.toList = [x, y])
    (hx : opdA x = some dx) (hy : opdA y = some dy) (h : aop P w0 (.mkc dx dy) ts m K) : o.wp P a w (Post w0 ow L o a K) Q := by
  simp only [aop, evK_eq] at h
  have hxv := opdA_sound hr hx
  have hyv := opdA_sound hr hy
  split at h
  · rename_i k p k' q e1 e2
    split at h
    · rename_i hk
      subst hk
      rw [e1] at hxv; rw [e2] at hyv
      obtain ⟨b1, hp, rfl⟩ := Rs_flt hxv
      obtain ⟨b2, hq, rfl⟩ := Rs_flt hyv
      refine post_pure hR (v := .complex k b1 b2) (call_builtin ho hc ?_) (av := .cpx k _ _) ⟨b1, b2, rfl, rfl, rfl⟩ h
      rw [args2 ha, hp, hq]
      cases k <;> rfl
    · exact h.elim
  · exact h.elim
theorem decode_neg_canon {k : FloatKind} {b : Nat} (h : (k.decode b).isNaN = false) : (k.decode (canon k b)).neg = (k.decode b).neg := by rw [canon_num' h]
theorem order_some_num {k : FloatKind} {x y : Nat} {r : Ordering} (h : k.format.order x y = some r) : (k.decode x).isNaN = false ∧ (k.decode y).isNaN = false := by
  constructor
  · cases hn : (k.decode x).isNaN with
    | false => rfl
    | true => have : k.format.order x y = none := order_nan_l hn
              rw [this] at h; cases h
  · cases hn : (k.decode y).isNaN with
    | false => rfl
    | true => have : k.format.order x y = none := order_nan_r hn
              rw [this] at h; cases h
theorem run_max2f (k : FloatKind) (x y : Nat) : ∃ r w', (Builtin.max2 (.float k x) (.float k y)).run P w = .ok (.float k r) w' ∧ canon k r = mxF k (canon k x) (canon k y) ∧ (w' = w ∨ w' = w.drew) := by
  unfold mxF
  rw [order_canon]
  simp only [Builtin.max2]
  cases h : k.format.order x y with
  | none =>
    obtain ⟨r, h1, h2⟩ := run_choose_nan (P := P) (w := w) k (.nanMinMax k true x y) (.inr (.inr ⟨true, x, y, rfl⟩))
    exact ⟨r, w.drew, by simp only [Sem.run_bind, h1, Result.andThen_ok, Sem.run_pure], h2, .inr rfl⟩
  | some q =>
    obtain ⟨h1, h2⟩ := order_some_num h
    cases q
    · exact ⟨y, w, rfl, rfl, .inl rfl⟩
    · refine ⟨_, w, rfl, ?_, .inl rfl⟩
      simp only [decode_neg_canon h1]
      split <;> rfl
    · exact ⟨x, w, rfl, rfl, .inl rfl⟩
theorem run_min2f (k : FloatKind) (x y : Nat) : ∃ r w', (Builtin.min2 (.float k x) (.float k y)).run P w = .ok (.float k r) w' ∧ canon k r = mnF k (canon k x) (canon k y) ∧ (w' = w ∨ w' = w.drew) := by
  unfold mnF
  rw [order_canon]
  simp only [Builtin.min2]
  cases h : k.format.order x y with
  | none =>
    obtain ⟨r, h1, h2⟩ := run_choose_nan (P := P) (w := w) k (.nanMinMax k false x y) (.inr (.inr ⟨false, x, y, rfl⟩))
    exact ⟨r, w.drew, by simp only [Sem.run_bind, h1, Result.andThen_ok, Sem.run_pure], h2, .inr rfl⟩
  | some q =>
    obtain ⟨h1, h2⟩ := order_some_num h
    cases q
    · exact ⟨x, w, rfl, rfl, .inl rfl⟩
    · refine ⟨_, w, rfl, ?_, .inl rfl⟩
      simp only [decode_neg_canon h1]
      split <;> rfl
    · exact ⟨y, w, rfl, rfl, .inl rfl⟩
theorem s_mxx (hR : Rep w0 ow L m w) (hr : RelT L ts a) {c : Call} {x y : Operand} {dx dy : DOpd} (ho : o.op = .call c) (hc : c.callee = .builtin .max) (ha : c.args.toList = [x, y])
    (hx : opdA x = some dx) (hy : opdA y = some dy) (h : aop P w0 (.mxx dx dy) ts m K) : o.wp P a w (Post w0 ow L o a K) Q := by
  simp only [aop, evK_eq] at h
  have hxv := opdA_sound hr hx
  have hyv := opdA_sound hr hy
  split at h
  · rename_i k p k' q e1 e2
    rw [e1] at hxv; rw [e2] at hyv
    have hp := Rs_raw hxv
    have hq := Rs_raw hyv
    refine post_pure hR (v := .int k (mxI p q)) (call_builtin ho hc ?_) (av := .raw (.int k (mxI p q))) ⟨rfl, rfl⟩ h
    rw [args2 ha, hp, hq]
    unfold mxI
    simp [builtin, Builtin.max_, Builtin.max2]
  · rename_i k p k' q e1 e2
    split at h
    · rename_i hk
      subst hk
      rw [e1] at hxv; rw [e2] at hyv
      obtain ⟨b1, hp, rfl⟩ := Rs_flt hxv
      obtain ⟨b2, hq, rfl⟩ := Rs_flt hyv
      obtain ⟨r, w', g1, g2, g3⟩ := run_max2f (P := P) (w := w) k b1 b2
      have hrun : (execOp a.eval o).run P w = .ok (.value (.float k r)) w' := call_builtin ho hc (by
        rw [args2 ha, hp, hq]; simp [builtin, Builtin.max_, g1])
      rcases g3 with rfl | rfl
      · exact post_pure hR hrun (av := .flt k _) ⟨r, rfl, g2⟩ h
      · exact post_drew hR hrun (av := .flt k _) ⟨r, rfl, g2⟩ h
    · exact h.elim
  · exact h.elim
theorem s_mnn (hR : Rep w0 ow L m w) (hr : RelT L ts a) {c : Call} {x y : Operand} {dx dy : DOpd} (ho : o.op = .call c) (hc : c.callee = .builtin .min) (ha : c.args.toList = [x, y])
    (hx : opdA x = some dx) (hy : opdA y = some dy) (h : aop P w0 (.mnn dx dy) ts m K) : o.wp P a w (Post w0 ow L o a K) Q := by
  simp only [aop, evK_eq] at h
  have hxv := opdA_sound hr hx
  have hyv := opdA_sound hr hy
  split at h
  · rename_i k p k' q e1 e2
    rw [e1] at hxv; rw [e2] at hyv
    have hp := Rs_raw hxv
    have hq := Rs_raw hyv
    refine post_pure hR (v := .int k (mnI p q)) (call_builtin ho hc ?_) (av := .raw (.int k (mnI p q))) ⟨rfl, rfl⟩ h
    rw [args2 ha, hp, hq]
    unfold mnI
    simp [builtin, Builtin.min_, Builtin.min2]
  · rename_i k p k' q e1 e2
    split at h
    · rename_i hk
      subst hk
      rw [e1] at hxv; rw [e2] at hyv
      obtain ⟨b1, hp, rfl⟩ := Rs_flt hxv
      obtain ⟨b2, hq, rfl⟩ := Rs_flt hyv
      obtain ⟨r, w', g1, g2, g3⟩ := run_min2f (P := P) (w := w) k b1 b2
      have hrun : (execOp a.eval o).run P w = .ok (.value (.float k r)) w' := call_builtin ho hc (by
        rw [args2 ha, hp, hq]; simp [builtin, Builtin.min_, g1])
      rcases g3 with rfl | rfl
      · exact post_pure hR hrun (av := .flt k _) ⟨r, rfl, g2⟩ h
      · exact post_drew hR hrun (av := .flt k _) ⟨r, rfl, g2⟩ h
    · exact h.elim
  · exact h.elim
theorem RnL_get : ∀ {vs : List AV} {ws : List Value} (i : Nat), RnL L vs ws → i < vs.length → ∃ v, ws[i]? = some v ∧ Rv L (getL vs i) v
  | [], _, i, _, hi => by simp at hi
  | x :: xs, _, 0, ⟨v, r, h1, h2, _⟩, _ => ⟨v, by rw [h1]; rfl, Rv_of_Rn h2⟩
  | x :: xs, _, i + 1, ⟨v, r, h1, _, h3⟩, hi => by
    obtain ⟨u, e1, e2⟩ := RnL_get (vs := xs) i h3 (by simpa using hi)
    exact ⟨u, by rw [h1]; simpa using e1, e2⟩
theorem s_ext (hR : Rep w0 ow L m w) (hr : RelT L ts a) {x : Operand} {dx : DOpd} {i : Nat} (ho : o.op = .extract x i)
    (hx : opdA x = some dx) (h : aop P w0 (.ext dx i) ts m K) : o.wp P a w (Post w0 ow L o a K) Q := by
  simp only [aop, evK_eq] at h
  have hxv := opdA_sound hr hx
  split at h
  · rename_i vs e
    split at h
    · rename_i hi
      rw [getK_eq] at h
      rw [e] at hxv
      obtain ⟨ws, hp, hws⟩ := (show ∃ ws, a.eval x = .tuple ws.toArray ∧ RnL L vs ws from hxv)
      have hi' : i < vs.length := by simpa using hi
      obtain ⟨v, hv1, hv2⟩ := RnL_get i hws hi'
      refine post_pure hR (v := v) ?_ (av := getL vs i) hv2 h
      simp only [execOp, ho, hp, Instr.extract]
      rw [List.getElem?_toArray, hv1]; rfl
    · exact h.elim
  · exact h.elim
theorem s_mki (hR : Rep w0 ow L m w) (hr : RelT L ts a) {t : TypeId} {d : TypeDesc} {x : Operand} {dx : DOpd} (ho : o.op = .makeInterface t x) (hd : P.underlying t = some d) (hd2 : ∀ ms, d ≠ .interface ms)
    (hx : opdA x = some dx) (h : aop P w0 (.mki t dx) ts m K) : o.wp P a w (Post w0 ow L o a K) Q := by
  simp only [aop, evK_eq] at h
  have hxv := opdA_sound hr hx
  split at h
  · rename_i hsc
    have hsc' : agA (evD ts dx) = false ∧ notTup (evD ts dx) = true := by simpa using hsc
    have hn := Rn_of_Rv (a := evD ts dx) (by intro vs he; rw [he] at hsc'; simp [notTup] at hsc') (by intro he; rw [he] at hsc'; simp [notTup] at hsc') hxv
    unfold Rn at hn
    rw [if_neg (by rw [hsc'.1]; simp)] at hn
    refine post_pure hR (v := .iface t (a.eval x)) ?_ (av := .ifc t (evD ts dx)) ⟨_, rfl, hn⟩ h
    simp only [execOp, ho, Instr.makeInterface, Sem.run_bind, run_und hd, Result.andThen_ok]
    cases d <;> first | rfl | exact absurd rfl (hd2 _)
  · exact h.elim
theorem zeroS_sound {t : TypeId} {z : AV} (h : zeroS P t = some z) : ∃ i v, P.info? t = some i ∧ i.zero = some v ∧ Fl L z [v] := by
  unfold zeroS at h
  split at h
  · rename_i i hi
    split at h
    · rename_i v hv
      split at h
      · rename_i ho
        obtain ⟨i', v', h1, h2, h3⟩ := zeroT_sound (L := L) h
        rw [hi] at h1; cases h1
        rw [hv] at h2; cases h2
        refine ⟨i, v, hi, hv, ?_⟩
        have : v.cells = #[v] := by cases v <;> first | rfl | (simp [isOne] at ho)
        rw [this] at h3; exact h3
      · cases h
    · cases h
  · cases h
theorem s_tas (hR : Rep w0 ow L m w) (hr : RelT L ts a) {t xt : TypeId} {d : TypeDesc} {x : Operand} {dx : DOpd} {z : AV} (ho : o.op = .typeAssert x xt t true) (hd : P.underlying t = some d) (hd2 : ∀ ms, d ≠ .interface ms) (hz : zeroS P t = some z)
    (hx : opdA x = some dx) (h : aop P w0 (.tas dx t z) ts m K) : o.wp P a w (Post w0 ow L o a K) Q := by
  simp only [aop, evK_eq] at h
  have hxv := opdA_sound hr hx
  split at h
  · rename_i t' v e
    rw [e] at hxv
    obtain ⟨u, hp, hu⟩ := (show ∃ u, a.eval x = .iface t' u ∧ Rs L v u from hxv)
    have hvn : Rn L v u := Rn_of_scalar (by cases v <;> first | rfl | simp [Rs] at hu) hu
    split at h
    · rename_i ht
      subst ht
      refine post_pure hR (v := .tuple #[u, .bool true]) ?_ (av := .tup [v, .raw (.bool true)]) ⟨[u, .bool true], rfl, _, _, rfl, hvn, _, _, rfl, ⟨rfl, rfl⟩, rfl⟩ h
      simp only [execOp, ho, Instr.typeAssert, Sem.run_bind, run_und hd, Result.andThen_ok, hp]
      cases d <;> first | (exact absurd rfl (hd2 _)) | simp
    · rename_i ht
      obtain ⟨i, zv, hi, hzv, hf⟩ := zeroS_sound (L := L) hz
      split at h
      · rename_i hsc
        refine post_pure hR (v := .tuple #[zv, .bool false]) ?_ (av := .tup [z, .raw (.bool false)]) ⟨[zv, .bool false], rfl, _, _, rfl, Rn_one hsc hf, _, _, rfl, ⟨rfl, rfl⟩, rfl⟩ h
        have hne : ¬ t' = t := fun he => ht he.symm
        simp only [execOp, ho, Instr.typeAssert, Sem.run_bind, run_und hd, Result.andThen_ok, hp]
        cases d <;> first | (exact absurd rfl (hd2 _)) | simp [hne, zeroValue, typeInfo, hi, hzv]
      · exact h.elim
  · exact h.elim

theorem least_two (p : String → Bool) (f : String → String) (l : List String) : (Instr.least (l.filter ((fun b => !b) ∘ p)) <|> Instr.least ((l.filter p).map f)).isNone = l.isEmpty := by
  cases l with
  | nil => rfl
  | cons s rest =>
    cases hc : p s with
    | true =>
      rw [List.filter_cons_of_neg (by simp [hc]), List.filter_cons_of_pos (by simp [hc])]
      cases hl : Instr.least (rest.filter ((fun b => !b) ∘ p)) <;> simp [Instr.least]
    | false =>
      rw [List.filter_cons_of_pos (by simp [hc])]
      simp [Instr.least]
theorem missing_eq (want : Array (String × TypeId)) (got : Array Method) : (Instr.missingMethod want got).isNone = want.toList.all fun x => got.any fun m => m.name == x.1 && m.sig == x.2 := by
  unfold Instr.missingMethod
  simp only [List.partition_eq_filter_filter]
  generalize hm : (want.toList.filter fun (name, sig) => !got.any fun m => m.name == name && m.sig == sig).map (·.1) = missing
  have h1 : (want.toList.all fun x => got.any fun m => m.name == x.1 && m.sig == x.2) = missing.isEmpty := by
    rw [← hm]
    cases h : (want.toList.all fun x => got.any fun m => m.name == x.1 && m.sig == x.2) with
    | true =>
      rw [List.all_eq_true] at h
      have : (want.toList.filter fun (name, sig) => !got.any fun m => m.name == name && m.sig == sig) = [] := by
        rw [List.filter_eq_nil_iff]
        intro x hx
        have := h x hx
        simp [this]
      rw [this]; rfl
    | false =>
      rw [List.all_eq_false] at h
      obtain ⟨x, hx, hn⟩ := h
      have hmem : x ∈ (want.toList.filter fun (name, sig) => !got.any fun m => m.name == name && m.sig == sig) := by
        rw [List.mem_filter]
        exact ⟨hx, by simpa using hn⟩
      cases hf : (want.toList.filter fun (name, sig) => !got.any fun m => m.name == name && m.sig == sig) with
      | nil => rw [hf] at hmem; cases hmem
      | cons y ys => rfl
  rw [h1]
  exact least_two _ _ _
theorem s_tai (hR : Rep w0 ow L m w) (hr : RelT L ts a) {t xt : TypeId} {want : Array (String × TypeId)} {x : Operand} {dx : DOpd} {z : AV} (ho : o.op = .typeAssert x xt t true) (hd : P.underlying t = some (.interface want)) (hz : zeroS P t = some z)
    (hx : opdA x = some dx) (h : aop P w0 (.tai dx ((List.range P.types.size).filter (missOk P want)) z) ts m K) : o.wp P a w (Post w0 ow L o a K) Q := by
  simp only [aop, evK_eq] at h
  have hxv := opdA_sound hr hx
  split at h
  · rename_i t' v e
    rw [e] at hxv
    obtain ⟨u, hp, hu⟩ := (show ∃ u, a.eval x = .iface t' u ∧ Rs L v u from hxv)
    obtain ⟨i, zv, hi, hzv, hf⟩ := zeroS_sound (L := L) hz
    split at h
    · rename_i hc
      obtain ⟨hin, hK⟩ := h
      have hok : missOk P want t' = true := by
        have := List.contains_iff_mem.1 hc
        exact (List.mem_filter.1 this).2
      unfold missOk at hok
      simp only [← missing_eq] at hok
      split at hok
      · rename_i i' hi'
        refine post_pure hR (v := .tuple #[a.eval x, .bool true]) ?_ (av := .tup [.ifc t' v, .raw (.bool true)]) ⟨[a.eval x, .bool true], rfl, _, _, rfl, ?_, _, _, rfl, ⟨rfl, rfl⟩, rfl⟩ hK
        · have hm : Instr.missingMethod want i'.methods = none := by simpa using hok
          simp only [execOp, ho, Instr.typeAssert, Sem.run_bind, run_und hd, Result.andThen_ok, hp]
          simp [typeInfo, hi', hm]
        · rw [hp]; exact ⟨u, rfl, hu⟩
      · cases hok
    · rename_i hc
      obtain ⟨hin, hK⟩ := h
      have hin := side_out hin
      split at hK
      · rename_i hsc
        have hno : missOk P want t' = false := by
          cases hmm : missOk P want t' with
          | false => rfl
          | true =>
            refine absurd (List.contains_iff_mem.2 (List.mem_filter.2 ⟨List.mem_range.2 hin, hmm⟩)) hc
        have hlt : ∃ i', P.info? t' = some i' := ⟨P.types[t'], by unfold Tables.info?; rw [if_pos hin]; exact Array.getElem?_eq_getElem hin⟩
        obtain ⟨i', hi'⟩ := hlt
        have hm : ∃ s, Instr.missingMethod want i'.methods = some s := by
          unfold missOk at hno
          simp only [← missing_eq] at hno
          rw [hi'] at hno
          simp only at hno
          cases hmm : Instr.missingMethod want i'.methods with
          | none => rw [hmm] at hno; cases hno
          | some s => exact ⟨s, rfl⟩
        obtain ⟨s, hs⟩ := hm
        refine post_pure hR (v := .tuple #[zv, .bool false]) ?_ (av := .tup [z, .raw (.bool false)]) ⟨[zv, .bool false], rfl, _, _, rfl, Rn_one hsc hf, _, _, rfl, ⟨rfl, rfl⟩, rfl⟩ hK
        simp only [execOp, ho, Instr.typeAssert, Sem.run_bind, run_und hd, Result.andThen_ok, hp]
        simp [typeInfo, hi', hs, zeroValue, hi, hzv]
      · exact hK.elim
  · exact h.elim
theorem s_nck (hR : Rep w0 ow L m w) (hr : RelT L ts a) {x : Operand} {dx : DOpd} (ho : o.op = .nilCheck x)
    (hx : opdA x = some dx) (h : aop P w0 (.nck dx) ts m K) : o.wp P a w (Post w0 ow L o a K) Q := by
  simp only [aop, evK_eq] at h
  have hxv := opdA_sound hr hx
  split at h
  · rename_i id p e
    rw [e] at hxv
    obtain ⟨b, off, hl, hp⟩ := Rs_ptr hxv
    refine post_pure hR (v := a.eval x) ?_ (av := .ptr id p) hxv h
    simp [execOp, ho, hp]
  · exact h.elim
theorem RvL_RsL : ∀ {as : List AV} {vs : List Value}, as.all isScalar = true → RvL L as vs → RsL L as vs
  | [], _, _, h => h
  | a :: as, _, hs, ⟨v, r, h1, h2, h3⟩ => by
    simp only [List.all_cons, Bool.and_eq_true] at hs
    refine ⟨v, r, h1, ?_, RvL_RsL hs.2 h3⟩
    have := hs.1
    cases a <;> first | exact h2 | (simp [isScalar] at this)
theorem s_mkf (hR : Rep w0 ow L m w) (hr : RelT L ts a) {f : Nat} {first caps : Array Operand} {ds : List DOpd} (ho : o.op = .makeFunc (.func f) first caps) (hf : first.toList = [])
    (hx : allSome opdA caps.toList = some ds) (h : aop P w0 (.mkf f ds) ts m K) : o.wp P a w (Post w0 ow L o a K) Q := by
  simp only [aop, evLK_eq] at h
  have hv := allSome_eval hr _ _ hx
  split at h
  · rename_i hs
    have hfe : first = #[] := by rw [← Array.toArray_toList (xs := first), hf]
    refine post_pure hR (v := .func (.func f) #[] (caps.toList.map a.eval).toArray) ?_ (av := .fn f (ds.map (evD ts))) ⟨_, rfl, RvL_RsL hs hv⟩ h
    simp only [execOp, ho, hfe, Instr.makeFunc, Sem.run_bind, Sem.run_pure, Result.andThen_ok, map_lists caps a.eval, Array.map_empty]
  · exact h.elim
end
end Go.Fw
