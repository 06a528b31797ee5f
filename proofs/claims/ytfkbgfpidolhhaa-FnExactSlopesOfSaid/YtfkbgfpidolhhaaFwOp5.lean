import Derived.Test.YtfkbgfpidolhhaaFwOp4
import Derived.Laws.Tables
namespace Go.Fw
open Go

section
variable {P : Program} {w0 : World} {ow : List Nat} {Q : Exit → Act → World → Prop}
variable {o : Oper} {a : Act} {w : World} {L : Locs} {m : MS} {ts : TS} {K : AV → MS → Prop}

theorem fold_set : ∀ (l : List Value) (k off : Nat) (cs : Array Value), off + k + l.length ≤ cs.size →
    ((l.zipIdx k).foldl (fun cs (x : Value × Nat) => cs.setIfInBounds (off + x.2) x.1) cs).toList = cs.toList.take (off + k) ++ l ++ cs.toList.drop (off + k + l.length)
  | [], k, off, cs, _ => by simp
  | x :: l, k, off, cs, h => by
    simp only [List.length_cons] at h
    rw [List.zipIdx_cons, List.foldl_cons, fold_set l (k + 1) off _ (by simp; omega)]
    simp only [Array.toList_setIfInBounds, List.length_cons]
    have hk : off + k < cs.toList.length := by simp; omega
    have e1 : (cs.toList.set (off + k) x).take (off + (k + 1)) = cs.toList.take (off + k) ++ [x] := by
      rw [show off + (k + 1) = off + k + 1 by omega, List.take_succ_eq_append_getElem (by simpa using hk)]
      rw [List.take_set_of_le (Nat.le_refl _)]
      simp
    have e2 : (cs.toList.set (off + k) x).drop (off + (k + 1) + l.length) = cs.toList.drop (off + k + (l.length + 1)) := by
      rw [List.drop_set_of_lt (by omega), show off + (k + 1) + l.length = off + k + (l.length + 1) by omega]
    rw [e1, e2]; simp
theorem fill_step {pre d post : List Value} {v : Value} (hl : v.cells.size = d.length) :
    v.cells.zipIdx.foldl (fun cs (x : Value × Nat) => cs.setIfInBounds (pre.length + x.2) x.1) (pre ++ d ++ post).toArray = (pre ++ v.cells.toList ++ post).toArray := by
  apply Array.ext'
  rw [← Array.foldl_toList, Array.toList_zipIdx]
  have hl' : v.cells.toList.length = d.length := by simpa using hl
  rw [fold_set v.cells.toList 0 pre.length _ (by simp; omega)]
  simp only [Nat.add_zero, hl']
  simp
theorem fill_sound (hr : RelT L ts a) {t : TypeId} {fs : Array Field} (hu : P.underlying t = some (.struct fs)) {place : Nat → Option (Nat × Nat)}
    (hp : ∀ (i : Nat) (f : Field) (inf : TypeInfo), fs[i]? = some f → P.info? f.type = some inf → place i = some (f.offset, inf.size)) :
    ∀ (parts : List (Nat × Operand)) (ps : List (Nat × Nat × Nat × DOpd)) (zs : List AV) (cs : List Value) (k : List AV → Prop), allSome (partOf P t) parts = some ps → fillK ts zs ps k → FlL L zs cs →
    ∃ zs' cs', k zs' ∧ FlL L zs' cs' ∧ Instr.fill place cs.toArray (parts.map fun p => (p.1, a.eval p.2)) = some cs'.toArray
  | [], ps, zs, cs, k, h, hk, hf => by
    simp only [allSome, Option.some.injEq] at h
    subst h
    exact ⟨zs, cs, hk, hf, rfl⟩
  | (i, x) :: parts, ps, zs, cs, k, h, hk, hf => by
    simp only [allSome] at h
    split at h
    · rename_i y ys h1 h2
      cases h
      unfold partOf at h1
      rw [hu] at h1
      simp only at h1
      split at h1
      · rename_i f d hfi hxd
        split at h1
        · rename_i inf hinf
          cases h1
          simp only [fillK, evK_eq] at hk
          have hxv := opdA_sound hr hxd
          split at hk
          · rename_i c hc
            split at hk
            · rename_i hsz
              split at hk
              · rename_i hsz2
                split at hk
                · rename_i hnt
                  rw [setK_eq] at hk
                  have hnt' : ∀ vs, evD ts d ≠ .tup vs := by intro vs he; rw [he] at hnt; simp [notTup] at hnt
                  have hfx := Rn_cells (Rn_of_Rv hnt' (by intro he; rw [he] at hnt; simp [notTup] at hnt) hxv)
                  obtain ⟨pre, dd, post, e1, e2, e3, e4⟩ := stCh_parts zs i f.offset c cs hc hf
                  have hlen : (a.eval x).cells.toList.length = dd.length := by rw [Fl_length _ _ hfx, Fl_length _ _ e3, hsz]
                  obtain ⟨zs', cs', g1, g2, g3⟩ := fill_sound hr hu hp parts ys _ (pre ++ (a.eval x).cells.toList ++ post) k h2 hk (e4 _ _ hfx hlen)
                  refine ⟨zs', cs', g1, g2, ?_⟩
                  simp only [List.map_cons, Instr.fill, hp i f inf hfi hinf]
                  have hsize : (a.eval x).cells.size = inf.size := by
                    have := Fl_length _ _ hfx
                    rw [← hsz2, ← this]; simp
                  have hlen' : (a.eval x).cells.size = dd.length := by simpa using hlen
                  have hcs : cs.toArray.size = pre.length + dd.length + post.length := by rw [e1]; simp; omega
                  have hfit : ¬ ((decide ((a.eval x).cells.size ≠ inf.size) || decide (f.offset + (a.eval x).cells.size > cs.toArray.size)) = true) := by
                    simp only [hsize, ne_eq, not_true_eq_false, decide_false, Bool.false_or, decide_eq_true_eq]
                    rw [hcs, ← hsize, hlen', ← e2]; omega
                  rw [if_neg hfit]
                  rw [← g3, e1, ← e2]
                  congr 1
                  exact fill_step hlen'
                · exact hk.elim
              · exact hk.elim
            · exact hk.elim
          · exact hk.elim
        · cases h1
      · cases h1
    · cases h
theorem mapM_places : ∀ (l : List Field), (l.all fun f => (P.info? f.type).isSome) = true →
    ∃ places : List (Nat × Nat), l.mapM (fun f => (P.info? f.type).map fun i => (f.offset, i.size)) = some places ∧ ∀ (i : Nat) (f : Field) (inf : TypeInfo), l[i]? = some f → P.info? f.type = some inf → places[i]? = some (f.offset, inf.size)
  | [], _ => ⟨[], by simp, fun i f inf h => by simp at h⟩
  | f :: l, h => by
    simp only [List.all_cons, Bool.and_eq_true] at h
    obtain ⟨ps, h1, h2⟩ := mapM_places l h.2
    obtain ⟨inf, hi⟩ := Option.isSome_iff_exists.1 h.1
    refine ⟨(f.offset, inf.size) :: ps, by simp [List.mapM_cons, hi, h1], fun i g inf' hg hi' => ?_⟩
    cases i with
    | zero => simp at hg; subst hg; rw [hi] at hi'; cases hi'; rfl
    | succ i => simpa using h2 i g inf' (by simpa using hg) hi'
theorem s_build (hR : Rep w0 ow L m w) (hr : RelT L ts a) {t : TypeId} {fs : Array Field} {zs : List AV} {parts : Array (Nat × Operand)} {ps : List (Nat × Nat × Nat × DOpd)} (ho : o.op = .build t parts) (hu : P.underlying t = some (.struct fs)) (hz : zeroT P t = some (.st zs))
    (hps : allSome (partOf P t) parts.toList = some ps) (hall : (fs.toList.all fun f => (P.info? f.type).isSome) = true) (h : aop P w0 (.build zs ps) ts m K) : o.wp P a w (Post w0 ow L o a K) Q := by
  simp only [aop] at h
  obtain ⟨i, v, hi, hv, hf⟩ := zeroT_sound (L := L) hz
  obtain ⟨places, hp1, hp2⟩ := mapM_places (P := P) fs.toList hall
  obtain ⟨zs', cs', g1, g2, g3⟩ := fill_sound hr hu (place := (places.toArray[·]?)) (fun i f inf hf hi => by
    have := hp2 i f inf (by simpa using hf) hi
    simpa using this) parts.toList ps zs v.cells.toList _ hps h hf
  have hb : P.built t (parts.map fun (i, x) => (i, a.eval x)).toList = some cs'.toArray := by
    unfold Program.built
    simp only [hi, hu, hv, hp1]
    rw [← g3]
    simp
  refine post_pure hR (v := .agg cs'.toArray) ?_ (av := .st zs') (Rv_of_Rn (Rn_agg rfl g2)) g1
  simp only [execOp, ho, Sem.run_bind, run_build w t _ _ hb, Result.andThen_ok, Sem.run_pure]

theorem ekOk_sound {e : TypeId} {k : Ek} (h : ekOk P e = some k) : ∃ i z, P.info? e = some i ∧ i.zero = some z ∧ i.size = eszE k ∧ i.bytes ≤ 16 ∧ z.cells.toList = zcell k := by
  unfold ekOk at h
  split at h
  · rename_i k' i _ hi
    split at h
    · rename_i z hz
      split at h
      · rename_i hc
        cases h
        simp only [Bool.and_eq_true, beq_iff_eq, decide_eq_true_eq] at hc
        refine ⟨i, z, hi, hz, hc.1.1, hc.1.2, ?_⟩
        have := zerosIs_sound k 1 _ hc.2
        rw [this]; simp [zcells]
      · cases h
    · cases h
  · cases h
theorem zcell_length (k : Ek) : (zcell k).length = eszE k := by cases k <;> rfl
theorem zcells_length (k : Ek) (n : Nat) : (zcells k n).length = n * eszE k := by
  induction n with
  | zero => simp [zcells]
  | succ n ih => simp [zcells, ih, zcell_length, Nat.succ_mul]; omega
theorem zcells_get (k : Ek) (n j : Nat) (h : j < n * eszE k) : (zcells k n)[j]? = (zcell k)[j % eszE k]? := by
  induction n generalizing j with
  | zero => omega
  | succ n ih =>
    have he : 0 < eszE k := by cases k <;> decide
    by_cases hj : j < eszE k
    · simp only [zcells]
      rw [List.getElem?_append_left (by rw [zcell_length]; exact hj), Nat.mod_eq_of_lt hj]
    · simp only [zcells]
      rw [List.getElem?_append_right (by rw [zcell_length]; omega), zcell_length, ih (j - eszE k) (by rw [Nat.succ_mul] at h; omega)]
      rw [← Nat.mod_eq_sub_mod (by omega)]
/-- a row of zeros, as 'make' and a slice's literal lay it -/
theorem made_zero {z : Value} {k : Ek} (hz : z.cells.toList = zcell k) (n : Nat) : ((Array.range (n * eszE k)).map (z.cells[· % z.cells.size]!)).toList = zcells k n := by
  have hs : z.cells.size = eszE k := by rw [← zcell_length k, ← hz]; simp
  apply List.ext_getElem?
  intro j
  by_cases hj : j < n * eszE k
  · have he : 0 < eszE k := by cases k <;> decide
    rw [zcells_get k n j hj]
    have hm : j % eszE k < z.cells.size := by rw [hs]; exact Nat.mod_lt _ he
    have h1 : (zcell k)[j % eszE k]? = some z.cells[j % eszE k] := by
      rw [← hz]; simp [hm]
    rw [h1]
    simp [hj, hs, getElem!_pos z.cells (j % eszE k) hm]
  · rw [List.getElem?_eq_none (by simp; omega), List.getElem?_eq_none (by rw [zcells_length]; omega)]
theorem s_mks (hR : Rep w0 ow L m w) (hr : RelT L ts a) {t e : TypeId} {k : Ek} {x y : Operand} {dx dy : DOpd} (ho : o.op = .makeSlice t x y) (hu : P.underlying t = some (.slice e)) (hk : ekOk P e = some k)
    (hx : opdA x = some dx) (hy : opdA y = some dy) (h : aop P w0 (.mks k dx dy) ts m K) : o.wp P a w (Post w0 ow L o a K) Q := by
  simp only [aop, evK_eq] at h
  have hxv := opdA_sound hr hx
  have hyv := opdA_sound hr hy
  split at h
  · rename_i p q e1 e2
    rw [e1] at hxv; rw [e2] at hyv
    have hp := Rs_raw hxv
    have hq := Rs_raw hyv
    obtain ⟨hb, h⟩ := h
    obtain ⟨rfl, h0, h1⟩ := side_out hb
    rw [newK_eq] at h
    obtain ⟨i, z, hi, hz, hsz, hby, hzc⟩ := ekOk_sound hk
    have hrun0 := run_make (P := P) w t e i z hu hi hz .i64 .i64 p p h0 (Int.le_refl _) (by
      have : (i.bytes : Int) ≤ 16 := by omega
      have h2 : (i.bytes : Int) * p ≤ 16 * p := Int.mul_le_mul_of_nonneg_right this h0
      omega) (by omega)
    have hrun : (execOp a.eval o).run P w = .ok (.value (.slice (some ⟨w.heap.size, 0, none⟩) p.toNat p.toNat)) (w.alloc (.cells (madeCells z.cells (p.toNat * i.size)) e)) := by
      simp only [execOp, ho, hp, hq, Sem.run_bind, hrun0, Result.andThen_ok, Sem.run_pure]
    have hcells : (madeCells z.cells (p.toNat * i.size)).toList = zcells k p.toNat := by
      rw [hsz]; exact made_zero hzc p.toNat
    have hsize : (madeCells z.cells (p.toNat * i.size)).size = p.toNat * eszE k := by rw [size_madeCells, hsz]
    refine wp_value hrun ⟨_, .sl m.length [] (eszE k) 0 (toN p) (toN p), _, L ++ [(w.heap.size, 0)], rfl, Ext.append _ _, ?_, hR.alloc e _ (zerosA_Fl k (toN p)) _ (fun j u hj => by
        rw [toN_toNat, ← hcells] at hj; simpa using hj) (by rw [hsize]; unfold mulN; rw [toN_toNat]; exact Nat.le_refl _), h⟩
    refine ⟨some ⟨w.heap.size, 0, none⟩, by rw [toN_toNat], Nat.le_refl _, .inr ⟨w.heap.size, 0, by rw [← hR.len]; simp, by simp [pathOff]⟩⟩
  · exact h.elim

/-! the literal of a slice -/
theorem go1_sound {c : AV} : ∀ (l : List AV) (f : List Int → AV), arr.go1 l f = some c → ∃ xs : List Int, l = xs.map (fun x => .raw (.int .i64 x)) ∧ c = f xs
  | [], f, h => by simp only [arr.go1, Option.some.injEq] at h; exact ⟨[], rfl, h.symm⟩
  | x :: l, f, h => by
    unfold arr.go1 at h
    split at h
    · rename_i he; cases he
    · rename_i he
      cases he
      obtain ⟨xs, h1, h2⟩ := go1_sound l _ h
      exact ⟨_ :: xs, by rw [h1]; rfl, h2⟩
    · cases h
theorem go2_sound {c : AV} : ∀ (l : List AV) (f : List Nat → AV), arr.go2 l f = some c → ∃ xs : List Nat, l = xs.map (fun x => .flt .f32 x) ∧ c = f xs
  | [], f, h => by simp only [arr.go2, Option.some.injEq] at h; exact ⟨[], rfl, h.symm⟩
  | x :: l, f, h => by
    unfold arr.go2 at h
    split at h
    · rename_i he; cases he
    · rename_i he
      cases he
      obtain ⟨xs, h1, h2⟩ := go2_sound l _ h
      exact ⟨_ :: xs, by rw [h1]; rfl, h2⟩
    · cases h
theorem go3_sound {c : AV} : ∀ (l : List AV) (f : List (Nat × Nat) → AV), arr.go3 l f = some c → ∃ xs : List (Nat × Nat), l = xs.map (fun x => .cpx .f32 x.1 x.2) ∧ c = f xs
  | [], f, h => by simp only [arr.go3, Option.some.injEq] at h; exact ⟨[], rfl, h.symm⟩
  | x :: l, f, h => by
    unfold arr.go3 at h
    split at h
    · rename_i he; cases he
    · rename_i he
      cases he
      obtain ⟨xs, h1, h2⟩ := go3_sound l _ h
      exact ⟨_ :: xs, by rw [h1]; rfl, h2⟩
    · cases h
theorem go4_sound {c : AV} : ∀ (l : List AV) (f : List (Int × Int) → AV), arr.go4 l f = some c → ∃ xs : List (Int × Int), l = xs.map (fun x => .st [.raw (.int .i64 x.1), .raw (.int .i64 x.2)]) ∧ c = f xs
  | [], f, h => by simp only [arr.go4, Option.some.injEq] at h; exact ⟨[], rfl, h.symm⟩
  | x :: l, f, h => by
    unfold arr.go4 at h
    split at h
    · rename_i he; cases he
    · rename_i he
      cases he
      obtain ⟨xs, h1, h2⟩ := go4_sound l _ h
      exact ⟨_ :: xs, by rw [h1]; rfl, h2⟩
    · cases h
/-- the cells of all -/
def cellsOfAll : List Value → List Value
  | [] => []
  | v :: vs => v.cells.toList ++ cellsOfAll vs
theorem RvL_ints : ∀ {xs : List Int} {vs : List Value}, RvL L (xs.map fun x => .raw (.int .i64 x)) vs → cellsOfAll vs = xs.map (Value.int .i64) ∧ (∀ v ∈ vs, v.cells.size = 1)
  | [], _, h => by simp [RvL] at h; subst h; exact ⟨rfl, by simp⟩
  | x :: xs, _, ⟨v, r, h1, h2, h3⟩ => by
    have hv := Rs_raw h2
    obtain ⟨g1, g2⟩ := RvL_ints h3
    subst h1 hv
    exact ⟨by simp [cellsOfAll, Value.cells, g1], by intro u hu; simp at hu; rcases hu with rfl | hu <;> first | rfl | exact g2 u hu⟩
theorem RvL_flts : ∀ {xs : List Nat} {vs : List Value}, RvL L (xs.map fun x => .flt .f32 x) vs → Ff xs (cellsOfAll vs) ∧ (∀ v ∈ vs, v.cells.size = 1)
  | [], _, h => by simp [RvL] at h; subst h; exact ⟨rfl, by simp⟩
  | x :: xs, _, ⟨v, r, h1, h2, h3⟩ => by
    obtain ⟨b, rfl, hb⟩ := Rs_flt h2
    obtain ⟨g1, g2⟩ := RvL_flts h3
    subst h1
    exact ⟨⟨b, cellsOfAll r, rfl, hb, g1⟩, by intro u hu; simp at hu; rcases hu with rfl | hu <;> first | rfl | exact g2 u hu⟩
theorem RvL_cpxs : ∀ {xs : List (Nat × Nat)} {vs : List Value}, RvL L (xs.map fun x => .cpx .f32 x.1 x.2) vs → Fc xs (cellsOfAll vs) ∧ (∀ v ∈ vs, v.cells.size = 1)
  | [], _, h => by simp [RvL] at h; subst h; exact ⟨rfl, by simp⟩
  | x :: xs, _, ⟨v, r, h1, h2, h3⟩ => by
    obtain ⟨b, c, rfl, hb, hc⟩ := Rs_cpx h2
    obtain ⟨g1, g2⟩ := RvL_cpxs h3
    subst h1
    exact ⟨⟨b, c, cellsOfAll r, rfl, hb, hc, g1⟩, by intro u hu; simp at hu; rcases hu with rfl | hu <;> first | rfl | exact g2 u hu⟩
theorem RvL_pairs : ∀ {xs : List (Int × Int)} {vs : List Value}, RvL L (xs.map fun x => .st [.raw (.int .i64 x.1), .raw (.int .i64 x.2)]) vs → cellsOfAll vs = cellsP xs ∧ (∀ v ∈ vs, v.cells.size = 2)
  | [], _, h => by simp [RvL] at h; subst h; exact ⟨rfl, by simp⟩
  | x :: xs, _, ⟨v, r, h1, h2, h3⟩ => by
    have hn : Rn L (.st [.raw (.int .i64 x.1), .raw (.int .i64 x.2)]) v := h2
    have hf := Rn_cells hn
    obtain ⟨c1, r1, e1, ⟨v1, rfl, rfl, _⟩, c2, r2, rfl, ⟨v2, rfl, rfl, _⟩, rfl⟩ := hf
    obtain ⟨g1, g2⟩ := RvL_pairs h3
    subst h1
    have hsz : v.cells.size = 2 := by have := congrArg List.length e1; simpa using this
    exact ⟨by simp [cellsOfAll, e1, g1, cellsP], by intro u hu; simp at hu; rcases hu with rfl | hu <;> first | exact hsz | exact g2 u hu⟩
theorem arr_sound {k : Ek} {l : List AV} {n : Nat} {c : AV} {vs : List Value} (h : arr k l n = some c) (hn : l.length = n) (hv : RvL L l vs) : Fl L c (cellsOfAll vs) ∧ ∀ v ∈ vs, v.cells.size = eszE k := by
  cases k
  · obtain ⟨xs, rfl, rfl⟩ := go1_sound (c := c) l _ h
    obtain ⟨g1, g2⟩ := RvL_ints hv
    exact ⟨⟨by simpa using hn, g1⟩, g2⟩
  · obtain ⟨xs, rfl, rfl⟩ := go2_sound (c := c) l _ h
    obtain ⟨g1, g2⟩ := RvL_flts hv
    exact ⟨⟨by simpa using hn, g1⟩, g2⟩
  · obtain ⟨xs, rfl, rfl⟩ := go3_sound (c := c) l _ h
    obtain ⟨g1, g2⟩ := RvL_cpxs hv
    exact ⟨⟨by simpa using hn, g1⟩, g2⟩
  · obtain ⟨xs, rfl, rfl⟩ := go4_sound (c := c) l _ h
    obtain ⟨g1, g2⟩ := RvL_pairs hv
    exact ⟨⟨by simpa using hn, g1⟩, g2⟩
theorem fill_seq (size : Nat) : ∀ (vs : List Value) (i : Nat) (cs : List Value), (∀ v ∈ vs, v.cells.size = size) → cs.length = (i + vs.length) * size →
    Instr.fill (fun i => some (i * size, size)) cs.toArray (vs.zipIdx i |>.map fun p => (p.2, p.1)) = some (cs.take (i * size) ++ cellsOfAll vs).toArray
  | [], i, cs, _, h => by
    simp only [List.zipIdx_nil, List.map_nil, Instr.fill, cellsOfAll, List.append_nil]
    rw [List.take_of_length_le (by rw [h]; simp)]
  | v :: vs, i, cs, hs, h => by
    have hv := hs v (by simp)
    have hle : i * size + size ≤ cs.length := by
      rw [h]; simp only [List.length_cons]
      have : (i + 1) * size ≤ (i + (vs.length + 1)) * size := Nat.mul_le_mul_right _ (by omega)
      rw [Nat.succ_mul] at this; exact this
    simp only [List.zipIdx_cons, List.map_cons, Instr.fill]
    have hfit : ¬ ((decide (v.cells.size ≠ size) || decide (i * size + v.cells.size > cs.toArray.size)) = true) := by
      simp only [hv, ne_eq, not_true_eq_false, decide_false, Bool.false_or, decide_eq_true_eq]
      simp; omega
    rw [if_neg hfit]
    have hsplit : cs = cs.take (i * size) ++ (cs.drop (i * size)).take size ++ cs.drop (i * size + size) := by
      rw [List.append_assoc, ← List.drop_drop, List.take_append_drop, List.take_append_drop]
    have hpl : (cs.take (i * size)).length = i * size := by simp; omega
    have hdl : v.cells.size = ((cs.drop (i * size)).take size).length := by simp; omega
    have hst := fill_step (pre := cs.take (i * size)) (d := (cs.drop (i * size)).take size) (post := cs.drop (i * size + size)) (v := v) hdl
    rw [← hsplit, hpl] at hst
    rw [hst, fill_seq size vs (i + 1) _ (fun u hu => hs u (by simp [hu]))]
    · congr 1
      apply Array.ext'
      have hvl : v.cells.toList.length = size := by simpa using hv
      simp only [cellsOfAll]
      rw [List.append_assoc, List.take_append, List.take_of_length_le (by rw [hpl, Nat.succ_mul]; omega), hpl]
      rw [show (i + 1) * size - i * size = size by rw [Nat.succ_mul]; omega]
      have ht : v.cells.toList.take size = v.cells.toList := List.take_of_length_le (by omega)
      rw [List.take_append, ht, hvl, Nat.sub_self]
      simp
    · have hvl : v.cells.toList.length = size := by simpa using hv
      simp only [List.length_append, hpl, hvl, List.length_drop, h, List.length_cons]
      have e : (i + (vs.length + 1)) * size = i * size + size + vs.length * size := by
        rw [show i + (vs.length + 1) = i + 1 + vs.length by omega, Nat.add_mul, Nat.succ_mul]
      have e2 : (i + 1 + vs.length) * size = i * size + size + vs.length * size := by rw [Nat.add_mul, Nat.succ_mul]
      omega
theorem seqFrom_parts : ∀ (parts : List (Nat × Operand)) (ps : List (Nat × DOpd)) (i : Nat), allSome (fun p => (opdA p.2).map fun y => (p.1, y)) parts = some ps → seqFrom i ps = true →
    allSome opdA (parts.map (·.2)) = some (ps.map (·.2)) ∧ parts.map (fun p => (p.1, a.eval p.2)) = ((parts.map fun p => a.eval p.2).zipIdx i).map fun p => (p.2, p.1)
  | [], ps, i, h, _ => by simp only [allSome, Option.some.injEq] at h; subst h; exact ⟨rfl, rfl⟩
  | p :: parts, ps, i, h, hs => by
    simp only [allSome] at h
    split at h
    · rename_i y ys h1 h2
      cases h
      simp only [Option.map_eq_some_iff] at h1
      obtain ⟨d, hd, rfl⟩ := h1
      simp only [seqFrom, Bool.and_eq_true, beq_iff_eq] at hs
      obtain ⟨g1, g2⟩ := seqFrom_parts parts ys (i + 1) h2 hs.2
      exact ⟨by simp [allSome, hd, g1], by simp [g2, hs.1]⟩
    · cases h
theorem s_bsl (hR : Rep w0 ow L m w) (hr : RelT L ts a) {t e : TypeId} {k : Ek} {n : Nat} {parts : Array (Nat × Operand)} {ps : List (Nat × DOpd)} (ho : o.op = .buildSlice t n parts) (hu : P.underlying t = some (.slice e)) (hk : ekOk P e = some k)
    (hps : allSome (fun p => (opdA p.2).map fun y => (p.1, y)) parts.toList = some ps) (hseq : seqFrom 0 ps = true) (hn : ps.length = n) (hn2 : n < 1000) (h : aop P w0 (.bsl k n ps) ts m K) : o.wp P a w (Post w0 ow L o a K) Q := by
  simp only [aop, evLK_eq] at h
  obtain ⟨i, z, hi, hz, hsz, hby, hzc⟩ := ekOk_sound hk
  obtain ⟨g1, g2⟩ := seqFrom_parts (a := a) parts.toList ps 0 hps hseq
  have hv := allSome_eval hr _ _ g1
  split at h
  · rename_i c hc
    rw [newK_eq] at h
    obtain ⟨f1, f2⟩ := arr_sound hc (by simpa using hn) hv
    have hlen : (parts.toList.map fun p => a.eval p.2).length = n := by
      have := RvL_length hv
      simp at this ⊢; omega
    have hes : eszE k ≤ 2 := by cases k <;> decide
    have hzl : (zcells k n).length = n * eszE k := zcells_length k n
    have hzero : (Array.range (n * eszE k)).map ((if n * eszE k = 0 then #[] else z.cells)[· % (if n * eszE k = 0 then #[] else z.cells).size]!) = (zcells k n).toArray := by
      by_cases h0 : n * eszE k = 0
      · have : zcells k n = [] := by
          have := hzl; rw [h0] at this; exact List.length_eq_zero_iff.1 this
        rw [this, h0]; simp
      · rw [if_neg h0]; apply Array.ext'; exact made_zero hzc n
    have hfill := fill_seq (eszE k) (parts.toList.map fun p => a.eval p.2) 0 (zcells k n) (by
      intro v hv'
      exact f2 v (by simpa using hv')) (by rw [hzl, hlen]; simp)
    rw [← g2] at hfill
    simp only [Nat.zero_mul, List.take_zero, List.nil_append] at hfill
    have hparts : (parts.map fun (p : Nat × Operand) => (p.1, a.eval p.2)).toList = parts.toList.map fun p => (p.1, a.eval p.2) := by simp
    have hrun : (execOp a.eval o).run P w = .ok (.value (.slice (some ⟨w.heap.size, 0, none⟩) n n)) (w.alloc (.cells (cellsOfAll (parts.toList.map fun p => a.eval p.2)).toArray e)) := by
      have hbig : ¬ (n * eszE k > 2 ^ 24) := by
        have : n * eszE k ≤ 1000 * 2 := Nat.mul_le_mul (by omega) hes
        omega
      simp only [execOp, ho, Instr.buildSlice, Sem.run_bind, run_und hu, Result.andThen_ok, sizeOf, typeInfo, run_program, hi, Sem.run_pure, hsz]
      rw [if_neg hbig]
      by_cases h0 : n * eszE k = 0
      · simp only [if_pos h0] at hzero ⊢
        simp only [Sem.run_bind, Sem.run_pure, Result.andThen_ok, hzero]
        rw [hparts, hfill]
        simp only [Sem.run_bind, newRow, run_newObj, Result.andThen_ok, Sem.run_pure]
        rfl
      · simp only [if_neg h0] at hzero ⊢
        simp only [Sem.run_bind, zeroValue, typeInfo, run_program, hi, hz, Sem.run_pure, Result.andThen_ok, hzero]
        rw [hparts, hfill]
        simp only [Sem.run_bind, newRow, run_newObj, Result.andThen_ok, Sem.run_pure]
        rfl
    have hcl := Fl_length _ _ f1
    have hmap : (parts.toList.map (·.2)).map a.eval = parts.toList.map fun p => a.eval p.2 := by simp
    rw [hmap] at f1 hcl
    refine wp_value hrun ⟨_, .sl m.length [] (eszE k) 0 n n, _, L ++ [(w.heap.size, 0)], rfl, Ext.append _ _, ?_, hR.alloc e _ f1 _ (fun j u hj => by simpa using hj) ?_, h⟩
    · exact ⟨some ⟨w.heap.size, 0, none⟩, rfl, Nat.le_refl _, .inr ⟨w.heap.size, 0, by rw [← hR.len]; simp, by simp [pathOff]⟩⟩
    · have : ∀ (vs : List Value), (∀ v ∈ vs, v.cells.size = eszE k) → (cellsOfAll vs).length = vs.length * eszE k := by
        intro vs
        induction vs with
        | nil => intro _; simp [cellsOfAll]
        | cons v vs ih =>
          intro hvs
          have h1 := hvs v (by simp)
          simp only [cellsOfAll, List.length_append, Array.length_toList, h1, List.length_cons, Nat.succ_mul]
          rw [ih (fun u hu => hvs u (by simp [hu]))]; omega
      have h2 := this (parts.toList.map fun p => a.eval p.2) (by rw [← hmap]; exact f2)
      rw [hlen] at h2
      simp only [List.size_toArray, h2]
      exact Nat.le_refl _
  · exact h.elim
end
end Go.Fw
