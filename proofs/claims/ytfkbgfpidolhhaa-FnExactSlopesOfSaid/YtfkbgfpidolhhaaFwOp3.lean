import Derived.Test.YtfkbgfpidolhhaaFwOp2
namespace Go.Fw
open Go

section
variable {P : Program} {w0 : World} {ow : List Nat} {Q : Exit → Act → World → Prop}
variable {o : Oper} {a : Act} {w : World} {L : Locs} {m : MS} {ts : TS} {K : AV → MS → Prop}

theorem agA_not_tup {a : AV} (h : agA a = true) : ∀ vs, a ≠ .tup vs := by
  intro vs e; subst e; simp [agA] at h
theorem Fl_not_tup {a : AV} {cs : List Value} (h : Fl L a cs) : ∀ vs, a ≠ .tup vs := by
  intro vs e; subst e; simp [Fl] at h
/-- the cells from an address on, as a value -/
theorem run_loadVar {t : TypeId} {g : Bool} {n : Nat} (hd : dsz P t = some (g, n)) {c : AV} {d : List Value} {b off : Nat} (hf : Fl L c d) (hg : agA c = g) (hn : szA c = n)
    (hc : ∀ j v, d[j]? = some v → w.cell? ⟨b, off + j, none⟩ = some v) : ∃ v, (loadVar t ⟨b, off, none⟩).run P w = .ok v w ∧ Rn L c v := by
  unfold dsz at hd
  split at hd
  · rename_i dd ii hu hi
    cases hd
    have hagg : (isAgg t).run P w = .ok (isArrD dd) w := by
      unfold isAgg
      rw [Sem.run_bind, run_und hu]
      cases dd <;> rfl
    have hlen := Fl_length _ _ hf
    cases hgd : isArrD dd with
    | true =>
      have hcs : (loadCells ⟨b, off, none⟩ d.length).run P w = .ok d.toArray w :=
        run_loadCells_list (P := P) w ⟨b, off, none⟩ d (fun j v hv => by
          have hadd : (⟨b, off, none⟩ : Addr).add j = ⟨b, off + j, none⟩ := by unfold Addr.add; split <;> simp_all
          rw [hadd]; exact hc j v hv)
      refine ⟨.agg d.toArray, ?_, Rn_agg (by rw [hg, hgd]) hf⟩
      rw [hgd] at hagg
      simp only [loadVar, Sem.run_bind, hagg, Result.andThen_ok, if_true, sizeOf, typeInfo, Sem.run_pure, run_program]
      rw [hi]
      simp only [Sem.run_pure, Result.andThen_ok]
      rw [← hn, ← hlen, hcs]
      rfl
    | false =>
      have hsc : ∃ v, d = [v] ∧ Rs L c v := by
        have := (Fl_scalar (L := L) (a := c) (cs := d) (by rw [hg, hgd]) (Fl_not_tup hf)).1 hf
        exact this
      obtain ⟨v, rfl, hv⟩ := hsc
      refine ⟨v, ?_, Rn_of_scalar (by rw [hg, hgd]) hv⟩
      rw [hgd] at hagg
      have h0 := hc 0 v rfl
      simp only [Nat.add_zero] at h0
      simp only [loadVar, Sem.run_bind, hagg, Result.andThen_ok, Bool.false_eq_true, if_false, run_load, h0]
  · cases hd
theorem Rs_ptr {id : Nat} {p : List Step} {v : Value} (h : Rv L (.ptr id p) v) : ∃ b off, L[id]? = some (b, off) ∧ v = .pointer (some ⟨b, off + pathOff p, none⟩) := h
theorem s_load (hR : Rep w0 ow L m w) (hr : RelT L ts a) {t : TypeId} {g : Bool} {n : Nat} {x : Operand} {dx : DOpd} (ho : o.op = .load t x) (hd : dsz P t = some (g, n))
    (hx : opdA x = some dx) (h : aop P w0 (.load g n dx) ts m K) : o.wp P a w (Post w0 ow L o a K) Q := by
  simp only [aop, evK_eq] at h
  have hxv := opdA_sound hr hx
  split at h
  · rename_i id path e
    rw [e] at hxv
    obtain ⟨b, off, hl, hp⟩ := Rs_ptr hxv
    split at h
    · rename_i en hen
      rw [getE_eq] at hen
      obtain ⟨cs, hf, hcs⟩ := (hR.ok id en (b, off) hen hl).cells
      obtain ⟨c, pre, d, post, e1, e2, e3, e4⟩ := rdK_parts path en.c cs _ h hf
      split at e4
      · rename_i hg
        split at e4
        · rename_i hn
          obtain ⟨v, hv1, hv2⟩ := run_loadVar (P := P) (w := w) (b := b) (off := off + pathOff path) hd e3 hg hn (fun j v hj => by
            have : cs[pathOff path + j]? = some v := by
              rw [e1, List.append_assoc, List.getElem?_append_right (by omega), e2]
              rw [List.getElem?_append_left (by
                rcases Nat.lt_or_ge (pathOff path + j - pathOff path) d.length with h' | h'
                · exact h'
                · rw [show pathOff path + j - pathOff path = j by omega] at h'
                  rw [List.getElem?_eq_none h'] at hj; cases hj)]
              rw [show pathOff path + j - pathOff path = j by omega]; exact hj
            rw [Nat.add_assoc]; exact hcs _ v this)
          refine post_pure hR (v := v) ?_ (av := c) (Rv_of_Rn hv2) e4
          simp only [execOp, ho, hp, Instr.loadAt, Instr.sureAddr, Sem.run_bind, Sem.run_pure, Result.andThen_ok, hv1]
        · exact e4.elim
      · exact e4.elim
    · exact h.elim
  · exact h.elim
theorem s_store (hR : Rep w0 ow L m w) (hr : RelT L ts a) {t : TypeId} {g : Bool} {n : Nat} {x y : Operand} {dx dy : DOpd} (ho : o.op = .store t x y) (hd : dsz P t = some (g, n)) (hn0 : n ≠ 0)
    (hx : opdA x = some dx) (hy : opdA y = some dy) (h : aop P w0 (.store n dx dy) ts m K) : o.wp P a w (Post w0 ow L o a K) Q := by
  simp only [aop, evK_eq] at h
  have hxv := opdA_sound hr hx
  have hyv := opdA_sound hr hy
  split at h
  · rename_i id path e
    rw [e] at hxv
    obtain ⟨b, off, hl, hp⟩ := Rs_ptr hxv
    split at h
    · rename_i en hen
      rw [getE_eq] at hen
      split at h
      · rename_i hsz
        split at h
        · rename_i hown
          simp only [setEK_eq] at h
          have hnt : ∀ vs, evD ts dy ≠ .tup vs := by
            intro vs he
            rw [he] at hsz
            exact hn0 hsz.symm
          have hyn := Rn_of_Rv hnt (by intro he; rw [he] at hsz; exact hn0 hsz.symm) hyv
          have hfy := Rn_cells hyn
          obtain ⟨c, w', g1, g2, g3⟩ := hR.store (P := P) hen hl hown h hfy
          refine wp_skip' (w' := w') ?_ ⟨undef, undefA, _, L, rfl, Ext.refl L, Rv_undef L, g3, g1⟩
          have hcells : (a.eval y).cells.size = n := by
            have := Fl_length _ _ hfy
            rw [hsz] at this
            simpa using this
          unfold dsz at hd
          split at hd
          · rename_i dd ii hu hi
            cases hd
            simp only [execOp, ho, hp, Instr.storeAt, Instr.sureAddr, Sem.run_bind, Sem.run_pure, Result.andThen_ok, storeVar, sizeOf, typeInfo, run_program, hi, hcells, ne_eq, not_true_eq_false, if_false]
            rw [g2]; rfl
          · cases hd
        · exact h.elim
      · exact h.elim
    · exact h.elim
  · exact h.elim

/-! zeros -/
theorem ap_zero (n : Nat) : cellsP (List.replicate n (0, 0)) = List.replicate (2 * n) (.int .i64 0) := by
  induction n with
  | zero => rfl
  | succ n ih => rw [List.replicate_succ, cellsP, ih, show 2 * (n + 1) = 2 * n + 1 + 1 by omega, List.replicate_succ, List.replicate_succ]
theorem canon_zero (k : FloatKind) : canon k 0 = 0 := canon_num' (by cases k <;> decide)
theorem Ff_zero (n : Nat) : Ff (List.replicate n 0) (List.replicate n (.float .f32 0)) := by
  induction n with
  | zero => rfl
  | succ n ih => exact ⟨0, _, rfl, canon_zero _, ih⟩
theorem Fc_zero (n : Nat) : Fc (List.replicate n (0, 0)) (List.replicate n (.complex .f32 0 0)) := by
  induction n with
  | zero => rfl
  | succ n ih => exact ⟨0, 0, _, rfl, canon_zero _, canon_zero _, ih⟩
def zcell : Ek → List Value
  | .i => [.int .i64 0]
  | .f => [.float .f32 0]
  | .c => [.complex .f32 0 0]
  | .p => [.int .i64 0, .int .i64 0]
def zcells (e : Ek) : Nat → List Value
  | 0 => []
  | n + 1 => zcell e ++ zcells e n
theorem zcells_one (e : Ek) (v : Value) (h : zcell e = [v]) (n : Nat) : zcells e n = List.replicate n v := by
  induction n with
  | zero => rfl
  | succ n ih => simp [zcells, h, ih, List.replicate_succ]
theorem zerosA_Fl (e : Ek) (n : Nat) : Fl L (zerosA e n) (zcells e n) := by
  cases e
  · refine ⟨by simp, ?_⟩; rw [zcells_one .i _ rfl]; simp
  · refine ⟨by simp, ?_⟩; rw [zcells_one .f _ rfl]; exact Ff_zero n
  · refine ⟨by simp, ?_⟩; rw [zcells_one .c _ rfl]; exact Fc_zero n
  · refine ⟨by simp, ?_⟩
    induction n with
    | zero => rfl
    | succ n ih => rw [List.replicate_succ, cellsP, ← ih]; rfl
theorem zerosIs_sound (e : Ek) : ∀ (n : Nat) (cs : List Value), zerosIs e n cs = true → cs = zcells e n
  | 0, [], _ => rfl
  | 0, _ :: _, h => by simp [zerosIs] at h
  | n + 1, [], h => by simp [zerosIs] at h
  | n + 1, c :: cs, h => by
    unfold zerosIs at h
    split at h
    · rw [zerosIs_sound _ n _ h]; rfl
    · rw [zerosIs_sound _ n _ h]; rfl
    · rw [zerosIs_sound _ n _ h]; rfl
    · rw [zerosIs_sound _ n _ h]; rfl
    · cases h
theorem zeroIs_sound {a : AV} {v : Value} (h : zeroIs a [v] = true) : Fl L a [v] := by
  unfold zeroIs at h
  split at h
  · rename_i he; cases he; simp at h; subst h; exact ⟨_, rfl, rfl, rfl⟩
  · rename_i he; cases he; simp at h; obtain ⟨rfl, rfl⟩ := h; exact ⟨_, rfl, rfl, rfl⟩
  · rename_i he; cases he; simp at h; obtain ⟨⟨rfl, rfl⟩, rfl⟩ := h; exact ⟨_, rfl, _, rfl, canon_zero _⟩
  · rename_i he; cases he; simp at h; obtain ⟨⟨⟨⟨rfl, rfl⟩, rfl⟩, rfl⟩, rfl⟩ := h; exact ⟨_, rfl, _, _, rfl, canon_zero _, canon_zero _⟩
  · rename_i he; cases he; exact ⟨_, rfl, rfl, rfl⟩
  · rename_i he; cases he; exact ⟨_, rfl, rfl, rfl⟩
  · rename_i he; cases he; exact ⟨_, rfl, rfl, rfl⟩
  · rename_i he; cases he; exact ⟨_, rfl, none, rfl, Nat.le_refl _, .inl rfl⟩
  · cases h
theorem zeroBs_sound {g : TypeId → List Value → Option (AV × List Value)} (hg : ∀ t cs a r, g t cs = some (a, r) → ∃ d, cs = d ++ r ∧ Fl L a d) : ∀ (ts : List TypeId) (cs : List Value) (zs : List AV) (r : List Value), zeroBs g ts cs = some (zs, r) → ∃ d, cs = d ++ r ∧ FlL L zs d
  | [], cs, zs, r, h => by
    unfold zeroBs at h
    cases h; exact ⟨[], rfl, rfl⟩
  | t :: ts, cs, zs, r, h => by
    unfold zeroBs at h
    cases h1 : g t cs with
    | none => rw [h1] at h; cases h
    | some p =>
      obtain ⟨z, r1⟩ := p
      rw [h1] at h
      cases h2 : zeroBs g ts r1 with
      | none => simp only [h2] at h; cases h
      | some q =>
        obtain ⟨zs', r2⟩ := q
        simp only [h2, Option.some.injEq, Prod.mk.injEq] at h
        obtain ⟨rfl, rfl⟩ := h
        obtain ⟨d1, e1, f1⟩ := hg t cs z r1 h1
        obtain ⟨d2, e2, f2⟩ := zeroBs_sound hg ts r1 zs' r2 h2
        exact ⟨d1 ++ d2, by rw [e1, e2]; simp, d1, d2, rfl, f1, f2⟩
theorem zeroB_sound : ∀ (n : Nat) (t : TypeId) (cs : List Value) (a : AV) (r : List Value), zeroB P n t cs = some (a, r) → ∃ d, cs = d ++ r ∧ Fl L a d
  | 0, _, _, _, _, h => by simp [zeroB] at h
  | n + 1, t, cs, a, r, h => by
    unfold zeroB at h
    split at h
    · split at h
      · rename_i kn _ _ _ ek _
        split at h
        · rename_i hz
          cases h
          exact ⟨cs.take (kn * eszE ek), (List.take_append_drop _ _).symm, by rw [zerosIs_sound _ _ _ hz]; exact zerosA_Fl _ _⟩
        · cases h
      · cases h
    · rename_i fs _
      cases hb : zeroBs (zeroB P n) (fs.toList.map (·.type)) cs with
      | none => rw [hb] at h; cases h
      | some p =>
        obtain ⟨zs, r'⟩ := p
        rw [hb] at h
        simp only [Option.some.injEq, Prod.mk.injEq] at h
        obtain ⟨rfl, rfl⟩ := h
        obtain ⟨d, h1, h2⟩ := zeroBs_sound (zeroB_sound n) _ cs zs r' hb
        exact ⟨d, h1, h2⟩
    · split at h
      · rename_i z c r' _
        split at h
        · rename_i hz
          cases h
          exact ⟨[c], rfl, zeroIs_sound hz⟩
        · cases h
      · cases h
theorem zeroT_sound {t : TypeId} {z : AV} (h : zeroT P t = some z) : ∃ i v, P.info? t = some i ∧ i.zero = some v ∧ Fl L z v.cells.toList := by
  unfold zeroT at h
  split at h
  · rename_i i hi
    split at h
    · rename_i v hv
      split at h
      · rename_i hb
        cases h
        obtain ⟨d, e1, e2⟩ := zeroB_sound (L := L) 8 t _ _ [] hb
        rw [List.append_nil] at e1
        exact ⟨i, v, hi, hv, by rw [e1]; exact e2⟩
      · cases h
    · cases h
  · cases h
theorem s_alloc (hR : Rep w0 ow L m w) {t : TypeId} {z : AV} (ho : o.op = .alloc t) (hz : zeroT P t = some z) (h : aop P w0 (.alloc z) ts m K) : o.wp P a w (Post w0 ow L o a K) Q := by
  simp only [aop, newK_eq] at h
  obtain ⟨i, v, hi, hv, hf⟩ := zeroT_sound (L := L) hz
  have hrun : (execOp a.eval o).run P w = .ok (.value (.pointer (some ⟨w.heap.size, 0, none⟩))) (w.alloc (.cells v.cells t)) := by
    simp only [execOp, ho, Instr.alloc, zeroValue, typeInfo, Sem.run_bind, run_program, Result.andThen_ok, hi, Sem.run_pure, hv, newVar, newRow, run_newObj]
    rfl
  refine wp_value hrun ⟨_, .ptr m.length [], _, L ++ [(w.heap.size, 0)], rfl, Ext.append _ _, ?_, hR.alloc t 0 hf v.cells (fun j u hj => by simpa using hj) (Nat.zero_le _), h⟩
  exact ⟨w.heap.size, 0, by rw [← hR.len]; simp, rfl⟩
theorem s_box (hR : Rep w0 ow L m w) (hr : RelT L ts a) {t : TypeId} {x : Operand} {dx : DOpd} (ho : o.op = .box t x) (hx : opdA x = some dx) (h : aop P w0 (.box dx) ts m K) : o.wp P a w (Post w0 ow L o a K) Q := by
  simp only [aop, evK_eq] at h
  have hxv := opdA_sound hr hx
  split at h
  · rename_i hnt
    simp only [newK_eq] at h
    have hnt' : ∀ vs, evD ts dx ≠ .tup vs := by
      intro vs he; rw [he] at hnt; simp [notTup] at hnt
    have hf := Rn_cells (Rn_of_Rv hnt' (by intro he; rw [he] at hnt; simp [notTup] at hnt) hxv)
    have hrun : (execOp a.eval o).run P w = .ok (.value (.pointer (some ⟨w.heap.size, 0, none⟩))) (w.alloc (.cells (a.eval x).cells t)) := by
      simp only [execOp, ho, Instr.box, newVar, newRow, Sem.run_bind, run_newObj, Result.andThen_ok, Sem.run_pure]
      rfl
    refine wp_value hrun ⟨_, .ptr m.length [], _, L ++ [(w.heap.size, 0)], rfl, Ext.append _ _, ?_, hR.alloc t 0 hf (a.eval x).cells (fun j u hj => by simpa using hj) (Nat.zero_le _), h⟩
    exact ⟨w.heap.size, 0, by rw [← hR.len]; simp, rfl⟩
  · exact h.elim

/-! addresses -/
theorem add_off (b off n : Nat) : (⟨b, off, none⟩ : Addr).add n = ⟨b, off + n, none⟩ := by unfold Addr.add; split <;> simp_all
theorem s_fad (hR : Rep w0 ow L m w) (hr : RelT L ts a) {s : TypeId} {f off : Nat} {x : Operand} {dx : DOpd} (ho : o.op = .fieldAddr s x f) (hf : fieldOf P s f = some off)
    (hx : opdA x = some dx) (h : aop P w0 (.fad dx f off) ts m K) : o.wp P a w (Post w0 ow L o a K) Q := by
  simp only [aop, evK_eq] at h
  have hxv := opdA_sound hr hx
  split at h
  · rename_i id path e
    simp only [snocK_eq] at h
    rw [e] at hxv
    obtain ⟨b, o2, hl, hp⟩ := Rs_ptr hxv
    unfold fieldOf at hf
    split at hf
    · rename_i fs hu
      split at hf
      · rename_i fd hfd
        split at hf
        · rename_i i hi
          split at hf
          · cases hf
          · rename_i hz
            cases hf
            refine post_pure hR (v := .pointer (some ⟨b, o2 + pathOff path + fd.offset, none⟩)) ?_ (av := .ptr id (path ++ [.fld f fd.offset])) ⟨b, o2, hl, by rw [pathOff_snoc, Nat.add_assoc]; rfl⟩ h
            simp only [execOp, ho, hp, Instr.fieldAt, Sem.run_bind, run_und hu, Result.andThen_ok, hfd, Instr.sureAddr, Sem.run_pure, fieldPlace, sizeOf, typeInfo, run_program, hi]
            rw [if_neg hz, add_off]; rfl
        · cases hf
      · cases hf
    · cases hf
  · exact h.elim
theorem toN_toNat (j : Int) : toN j = j.toNat := by unfold toN; rfl
theorem s_iad (hR : Rep w0 ow L m w) (hr : RelT L ts a) {t e : TypeId} {n : Nat} {j : TypeInfo} {x y : Operand} {dx dy : DOpd} (ho : o.op = .indexAddr t x y) (hu : P.underlying t = some (.array n e)) (hj : P.info? e = some j)
    (hx : opdA x = some dx) (hy : opdA y = some dy) (h : aop P w0 (.iad n j.size dx dy) ts m K) : o.wp P a w (Post w0 ow L o a K) Q := by
  simp only [aop, evK_eq] at h
  have hxv := opdA_sound hr hx
  have hyv := opdA_sound hr hy
  split at h
  · rename_i id path k i e1 e2
    simp only [snocK_eq] at h
    rw [e1] at hxv; rw [e2] at hyv
    obtain ⟨b, o2, hl, hp⟩ := Rs_ptr hxv
    have hq := Rs_raw hyv
    obtain ⟨hb, hK⟩ := h
    have hb := side_out hb
    refine post_pure hR (v := .pointer (some ⟨b, o2 + pathOff path + i.toNat * j.size, none⟩)) ?_ (av := .ptr id (path ++ [.idx (toN i) j.size])) ⟨b, o2, hl, by rw [pathOff_snoc, toN_toNat, Nat.add_assoc]; rfl⟩ hK
    simp only [execOp, ho, hp, hq, Instr.indexAt, asIntOf, Sem.run_bind, Sem.run_pure, run_und hu, Result.andThen_ok, Instr.sureAddr]
    rw [if_pos hb]
    simp only [Sem.run_bind, sizeOf, typeInfo, run_program, Result.andThen_ok, hj, Sem.run_pure, add_off]
  · exact h.elim
theorem Rs_sl {id : Nat} {p : List Step} {esz lo len cap : Nat} {v : Value} (h : Rv L (.sl id p esz lo len cap) v) :
    ∃ ad, v = .slice ad len cap ∧ len ≤ cap ∧ (cap = 0 ∨ ∃ b off, L[id]? = some (b, off) ∧ ad = some ⟨b, off + pathOff p + lo * esz, none⟩) := h
theorem s_ias (hR : Rep w0 ow L m w) (hr : RelT L ts a) {t e : TypeId} {j : TypeInfo} {x y : Operand} {dx dy : DOpd} (ho : o.op = .indexAddr t x y) (hu : P.underlying t = some (.slice e)) (hj : P.info? e = some j)
    (hx : opdA x = some dx) (hy : opdA y = some dy) (h : aop P w0 (.ias j.size dx dy) ts m K) : o.wp P a w (Post w0 ow L o a K) Q := by
  simp only [aop, evK_eq] at h
  have hxv := opdA_sound hr hx
  have hyv := opdA_sound hr hy
  split at h
  · rename_i id path esz lo len cap k i e1 e2
    split at h
    · rename_i hsz
      subst hsz
      simp only [snocK_eq] at h
      rw [e1] at hxv; rw [e2] at hyv
      obtain ⟨ad, hp, hlc, had⟩ := Rs_sl hxv
      have hq := Rs_raw hyv
      obtain ⟨hb, hK⟩ := h
      have hb := side_out hb
      obtain ⟨b, o2, hl, rfl⟩ := had.resolve_left (by omega)
      refine post_pure hR (v := .pointer (some ⟨b, o2 + pathOff path + lo * j.size + i.toNat * j.size, none⟩)) ?_ (av := .ptr id (path ++ [.idx (addN lo (toN i)) j.size])) ⟨b, o2, hl, ?_⟩ hK
      · simp only [execOp, ho, hp, hq, Instr.indexAt, asIntOf, Sem.run_bind, Sem.run_pure, run_und hu, Result.andThen_ok]
        rw [if_pos hb]
        simp only [Sem.run_bind, sizeOf, typeInfo, run_program, Result.andThen_ok, hj, Sem.run_pure, add_off]
      · rw [pathOff_snoc, toN_toNat]
        unfold addN
        simp only [stepOff, Nat.add_mul]
        rw [show o2 + (pathOff path + (lo * j.size + i.toNat * j.size)) = o2 + pathOff path + lo * j.size + i.toNat * j.size by omega]
    · exact h.elim
  · exact h.elim
theorem child_idx {c v : AV} {i : Nat} (h : child c (.idx i 1) = some v) : agA c = true ∧ agA v = false ∧ ∀ vs, v ≠ .tup vs := by
  unfold child at h
  split at h
  · rename_i hs; cases hs
  · cases h; exact ⟨rfl, rfl, by simp⟩
  · cases h; exact ⟨rfl, rfl, by simp⟩
  · cases h; exact ⟨rfl, rfl, by simp⟩
  · rename_i hs; cases hs
  · cases h
theorem s_idx (hR : Rep w0 ow L m w) (hr : RelT L ts a) {t e : TypeId} {n : Nat} {d : TypeDesc} {j : TypeInfo} {x y : Operand} {dx dy : DOpd} (ho : o.op = .index t x y) (hu : P.underlying t = some (.array n e)) (hue : P.underlying e = some d) (hd : isArrD d = false) (hj : P.info? e = some j) (hj1 : j.size = 1)
    (hx : opdA x = some dx) (hy : opdA y = some dy) (h : aop P w0 (.idx n dx dy) ts m K) : o.wp P a w (Post w0 ow L o a K) Q := by
  simp only [aop, evK_eq] at h
  have hxv := opdA_sound hr hx
  have hyv := opdA_sound hr hy
  split at h
  · rename_i k i e2
    rw [e2] at hyv
    have hq := Rs_raw hyv
    split at h
    · rename_i v hv
      obtain ⟨hb, hK⟩ := h
      obtain ⟨hb1, hb2, hb3⟩ := side_out hb
      obtain ⟨c1, c2, c3⟩ := child_idx hv
      have hxn := Rn_of_Rv (agA_not_tup c1) (by intro he; rw [he] at c1; simp [agA] at c1) hxv
      unfold Rn at hxn
      rw [if_pos c1] at hxn
      obtain ⟨cs, hp, hf⟩ := hxn
      obtain ⟨pre, dd, post, f1, f2, f3, _⟩ := child_parts hv hb3 hf
      obtain ⟨u, rfl, hu2⟩ := (Fl_scalar c2 c3).1 f3
      refine post_pure hR (v := u) ?_ (av := v) (Rv_of_Rn (Rn_of_scalar c2 hu2)) hK
      simp only [execOp, ho, hp, hq, Instr.index, asIntOf, Sem.run_bind, Sem.run_pure, run_und hu, Result.andThen_ok]
      rw [if_pos ⟨hb1, hb2⟩]
      have hagg : (isAgg e).run P w = .ok false w := by
        unfold isAgg
        rw [Sem.run_bind, run_und hue]
        cases d <;> first | rfl | (simp [isArrD] at hd)
      simp only [Sem.run_bind, sizeOf, typeInfo, run_program, Result.andThen_ok, hj, Sem.run_pure, part, hagg, Bool.false_eq_true, if_false, hj1, Nat.mul_one]
      have hcell : cs.toArray[i.toNat]? = some u := by
        rw [List.getElem?_toArray, f1, List.append_assoc, List.getElem?_append_right (by rw [f2, toN_toNat]; simp [stepOff]), f2, toN_toNat]
        simp [stepOff]
      rw [hcell]; rfl
    · exact h.elim
  · exact h.elim
end
end Go.Fw
