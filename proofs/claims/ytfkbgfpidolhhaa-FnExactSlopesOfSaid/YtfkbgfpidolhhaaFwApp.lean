import Derived.Test.YtfkbgfpidolhhaaFwOp9
namespace Go.Fw
open Go
section
variable {P : Program} {w0 : World} {ow : List Nat} {Q : Exit → Act → World → Prop}
variable {o : Oper} {a : Act} {w : World} {L0 L : Locs} {m : MS} {ts : TS} {K : AV → TS → MS → Prop}
def PostX (w0 : World) (ow : List Nat) (L0 : Locs) (o : Oper) (a : Act) (K : AV → TS → MS → Prop) (a' : Act) (w' : World) : Prop :=
  ∃ v av ts' m' L', a' = a.put o.dst v ∧ Ext L0 L' ∧ Rv L' av v ∧ RelT L' ts' a ∧ Rep w0 ow L' m' w' ∧ K av ts' m'
theorem reloc (hx : Ext L0 L) (hr : RelT L ts a) (hlen : L.length = m.length) {L' : Locs} {w' : World} {i : Nat} {e : Ent} {c : AV} {cp esz n : Nat} {v : Value} {k : Nat} (hi : m[i]? = some e) (hnb : L0.length ≤ i) (hal : aloneM i m = true) (hbl : belowM m.length m = true) (hcs : ∀ cs, Fl L' c cs → ∀ L'', Fl L'' c cs)
    (r2 : Ext L L') (r3 : Rv L' (.sl m.length [] esz 0 n cp) v) (r4 : Rep w0 ow L' (m.set i deadE ++ [⟨true, c, k⟩]) w') :
    ∃ L'', Ext L0 L'' ∧ Rv L'' (.sl i [] esz 0 n cp) v ∧ RelT L'' (ts.map fun x => if mentions i x then .junk else x) a ∧ Rep w0 ow L'' (m.set i ⟨true, c, k⟩) w' := by
  have hil := getElem?_lt hi
  have hl' : L'.length = m.length + 1 := by rw [r4.len]; simp
  obtain ⟨q, hq⟩ : ∃ q, L'[m.length]? = some q := ⟨L'[m.length]'(by omega), List.getElem?_eq_getElem _⟩
  have hag : Agree (fun j => j ≠ i) L (L.set i q) := fun j p hj hp => by rw [List.getElem?_set_ne (Ne.symm hj)]; exact hp
  refine ⟨L.set i q, ?_, ?_, ?_, ?_⟩
  · intro j p hp
    have := getElem?_lt hp
    exact hag j p (by omega) (hx j p hp)
  · obtain ⟨ad, h1, h2, h3⟩ := Rs_sl r3
    refine ⟨ad, h1, h2, h3.imp id ?_⟩
    rintro ⟨b, off, g1, g2⟩
    rw [hq] at g1
    cases g1
    exact ⟨b, off, by rw [List.getElem?_set_self (by omega)], g2⟩
  · refine ⟨by simp [hr.1], fun j => ?_⟩
    rw [getL_map _ (by simp [mentions, mentionsL])]
    cases hm : mentions i (getL ts j) with
    | true => trivial
    | false => exact (hr.2 j).swap hag (mentions_ok i _ hm)
  · refine r4.reindex (fun j => if j = i then m.length else j) (by simp [hlen]) ?_ ?_ ?_ ?_
    · intro j f hj
      by_cases hji : j = i
      · subst hji
        rw [List.getElem?_set_self hil] at hj
        cases hj
        simp only [if_true]
        rw [List.getElem?_append_right (by simp)]
        simp
      · rw [List.getElem?_set_ne (Ne.symm hji)] at hj
        simp only [hji, if_false]
        rw [List.getElem?_append_left (by simpa using getElem?_lt hj), List.getElem?_set_ne (Ne.symm hji)]
        exact hj
    · intro j p hj
      by_cases hji : j = i
      · subst hji
        rw [List.getElem?_set_self (by omega)] at hj
        cases hj
        simp only [if_true]; exact hq
      · rw [List.getElem?_set_ne (Ne.symm hji)] at hj
        simp only [hji, if_false]
        exact r2 j p hj
    · intro j j' hj hj' hne
      simp only [List.length_set] at hj hj'
      split <;> split <;> omega
    · intro j f cs hj hf
      by_cases hji : j = i
      · subst hji
        rw [List.getElem?_set_self hil] at hj
        cases hj
        exact hcs cs hf _
      · rw [List.getElem?_set_ne (Ne.symm hji)] at hj
        have h1 := mentions_ok i _ (aloneM_ok hal j f hj)
        have h2 := below_ok m.length _ (belowM_ok hbl j f hj)
        have hL1 : Agree (fun j => j < m.length) L' L := fun j p hj hp => by
          have hjl : j < L.length := by rw [hlen]; exact hj
          have hg := r2 j _ (List.getElem?_eq_getElem hjl)
          rw [hp] at hg; cases hg
          exact List.getElem?_eq_getElem hjl
        exact (hf.swap hL1 _ _ h2).swap hag _ _ h1
theorem plain_any {a b c : AV} {n : Nat} (h : appA a n b = some c) {L' : Locs} {cs : List Value} (hf : Fl L' c cs) (L'' : Locs) : Fl L'' c cs := by
  unfold appA at h
  split at h <;> first | (cases h; exact hf) | cases h
theorem s_appX (hR : Rep w0 ow L m w) (hr : RelT L ts a) (hx0 : Ext L0 L) {c : Call} {x y : Operand} {dx dy : DOpd} {t e : TypeId} {k : Ek} (ho : o.op = .call c) (hc : c.callee = .builtin .append) (ha : c.args.toList = [x, y])
    (hat : c.argTypes.toList = [t, t]) (hu : P.underlying t = some (.slice e)) (hk : ekOk P e = some k)
    (hx : opdA x = some dx) (hy : opdA y = some dy) (h : appS L0.length k (evD ts dx) (evD ts dy) ts m K) : o.wp P a w (PostX w0 ow L0 o a K) Q := by
  have hxv := opdA_sound hr hx
  have hyv := opdA_sound hr hy
  have hat' : c.argTypes = #[t, t] := by rw [← Array.toArray_toList (xs := c.argTypes), hat]
  have hgo : ∀ {v : Value} {w' : World}, (Builtin.append_ #[t, t] o.type #[a.eval x, a.eval y]).run P w = .ok v w' → (execOp a.eval o).run P w = .ok (.value v) w' := by
    intro v w' hh
    refine call_builtin ho hc ?_
    rw [args2 ha, hat']
    simp only [builtin, Sem.run_bind, hh, Result.andThen_ok, Sem.run_pure]
  unfold appS at h
  split at h
  · rename_i i p esz lo n cap j q esz' lo' n' cap' e1 e2
    rw [e1] at hxv; rw [e2] at hyv
    split at h
    · simp only [getE_eq] at h
      split at h
      · rename_i ej hj
        split at h
        · rename_i z2
          subst z2
          split at h
          · rename_i hek
            split at h
            · rename_i ei hi
              split at h
              · rename_i z1
                subst z1
                split at h
                · rename_i hown
                  split at h
                  · rename_i hnb
                    split at h
                    · rename_i cc hcc
                      split at h
                      · rename_i hal hbl
                        obtain ⟨hb, h⟩ := h
                        obtain ⟨b1, b2, b3, b4, b5⟩ := side_out hb
                        obtain ⟨v, w', L', cp, r1, r2, r3, r4⟩ := app_core (P := P) (ty := o.type) hR hu hk hxv hyv hi hj hek hown hcc b1 b2 b3 b4 b5
                        have h := h cp
                        simp only [killK_eq, setEK_eq] at h
                        obtain ⟨L'', g1, g2, g3, g4⟩ := reloc hx0 hr hR.len hi hnb hal hbl (fun cs hf L'' => plain_any hcc hf L'') r2 r3 r4
                        exact wp_value (hgo r1) ⟨v, _, _, _, L'', rfl, g1, g2, g3, g4, h⟩
                      · exact h.elim
                    · exact h.elim
                  · exact h.elim
                · exact h.elim
              · exact h.elim
            · split at h
              · obtain ⟨h1, h2⟩ := h
                rcases Nat.eq_zero_or_pos n' with h0 | h0
                · subst h0
                  obtain ⟨ad, hp, _, _⟩ := Rs_sl hxv
                  obtain ⟨ad', hq, _, had'⟩ := Rs_sl hyv
                  obtain ⟨ti, z, hti, hz, hsz, hby, hzc⟩ := ekOk_sound hk
                  refine wp_value (hgo (v := .slice ad 0 0) (w' := w) ?_) ⟨_, nilS (eszE k), ts, m, L, rfl, hx0, ⟨ad, rfl, Nat.le_refl _, .inl rfl⟩, hr, hR, h1 rfl⟩
                  rw [hp]
                  refine run_app_fits (P := P) (w := w) (n := 0) (n' := 0) (cap := 0) (ns := []) hu hti hsz hq ?_ (Nat.le_refl _) (w' := w) ?_
                  · rw [hq]
                    cases ad' with
                    | none => rfl
                    | some x => simp [Builtin.firstCells, loadCells, loadCellsFrom]
                  · cases ad with
                    | none => exact .inl ⟨rfl, rfl⟩
                    | some x => exact .inr ⟨x, rfl, rfl⟩
                · obtain ⟨hb, h⟩ := h2 h0
                  obtain ⟨b1, b2⟩ := side_out hb
                  have hxv' : Rv L (.sl i [] (eszE k) 0 0 0) (a.eval x) := by
                    obtain ⟨ad, hp, _, _⟩ := Rs_sl hxv
                    exact ⟨ad, hp, Nat.le_refl _, .inl rfl⟩
                  obtain ⟨v, w', L', cp, r1, r2, r3, r4⟩ := app_fresh (P := P) (ty := o.type) hR hu hk hxv' hyv hj hek b1 h0 b2
                  have h := h cp
                  rw [newK_eq] at h
                  exact wp_value (hgo r1) ⟨v, _, _, _, L', rfl, hx0.trans r2, r3, hr.ext r2, r4, h⟩
              · exact h.elim
          · exact h.elim
        · exact h.elim
      · exact h.elim
    · exact h.elim
  · exact h.elim
theorem decOp_app {k : Ek} {dx dy : DOpd} (h : decOp P o = some (.app k dx dy)) :
    ∃ c x y t e, o.op = .call c ∧ c.callee = .builtin .append ∧ c.args.toList = [x, y] ∧ c.argTypes.toList = [t, t] ∧ P.underlying t = some (.slice e) ∧ ekOk P e = some k ∧ opdA x = some dx ∧ opdA y = some dy := by
  unfold decOp at h
  split at h
  case h_25 c ho =>
    split at h
    · split at h
      · split at h
        · cases h
        · split at h <;> cases h
      · cases h
    · cases h
    · cases h
    · split at h <;> cases h
    · rename_i h1 h2
      split at h
      · rename_i h3
        split at h
        · rename_i h4
          split at h
          · rename_i h5
            split at h
            · rename_i h6
              subst h6
              obtain ⟨x, y, hx1, hx2, hx3⟩ := allSome_two h2
              cases h
              exact ⟨_, x, y, _, _, ho, h1, hx1, h3, h4, h5, hx2, hx3⟩
            · cases h
          · cases h
        · cases h
      · cases h
    all_goals cases h
  all_goals first
    | (simp only [Option.map_eq_some_iff] at h; obtain ⟨_, _, h⟩ := h; cases h; done)
    | (cases h; done)
    | (split at h <;> first | (cases h; done) | (simp only [Option.map_eq_some_iff] at h; obtain ⟨_, _, h⟩ := h; cases h; done) | (split at h <;> first | (cases h; done) | (split at h <;> cases h; done)))
theorem aopX_sound (hR : Rep w0 ow L m w) (hr : RelT L ts a) (hx0 : Ext L0 L) {d : DOp} (hd : decOp P o = some d) (h : aopX P w0 L0.length d ts m K) : o.wp P a w (PostX w0 ow L0 o a K) Q := by
  by_cases hap : ∃ k dx dy, d = .app k dx dy
  · obtain ⟨k, dx, dy, rfl⟩ := hap
    simp only [aopX, evK_eq] at h
    obtain ⟨c, x, y, t, e, h1, h2, h3, h4, h5, h6, h7, h8⟩ := decOp_app hd
    exact s_appX hR hr hx0 h1 h2 h3 h4 h5 h6 h7 h8 h
  · have h' : aop P w0 d ts m fun v m => K v ts m := by
      unfold aopX at h
      split at h
      · rename_i k dx dy; exact absurd ⟨k, dx, dy, rfl⟩ hap
      · exact h
    refine Oper.wp_mono ?_ (aop_sound (Q := Q) hR hr hd h')
    rintro a' w' ⟨cv, av, m', L', rfl, hx', hv, hR', hk⟩
    exact ⟨cv, av, ts, m', L', rfl, hx0.trans hx', hv, hr.ext hx', hR', hk⟩
end
end Go.Fw
