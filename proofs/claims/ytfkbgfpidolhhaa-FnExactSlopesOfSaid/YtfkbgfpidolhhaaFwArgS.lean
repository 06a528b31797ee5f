import Derived.Test.YtfkbgfpidolhhaaFwView
namespace Go.Fw
open Go Go.RowKit Go.ChangeShapes Go.WideShapes
/-- a slice that comes in, cell by cell -/
theorem arg_slice {H : Type} {enc : TypeId × Value → H} {P : Program} {w : World} {t e : TypeId} {c : Nat} {v : Value} {d : DataW H} {ps : List MemPlace} {b0 : Nat} {Q : List Value → Prop} (ht : P.underlying t = some (.slice e)) (hc : P.cellsOf e = c) (hc0 : 0 < c)
    (hel : ∀ fuel cs y, DataW.trod enc P w 0 (fun _ => true) true fuel e cs = some y → Q cs)
    (hval : Value.okWide P w .any b0 t v) (h : DataW.Trod enc P w 0 (fun _ => true) true t v d ps) :
    ∃ (n cap : Nat) (css : List (List Value)) (q : Nat × Nat), css.length = n ∧ (∀ cs ∈ css, Q cs ∧ cs.length = c) ∧ (∀ (L : Locs) (i : Nat), L[i]? = some q → Rv L (.sl i [] c 0 n cap) v) ∧
      (∀ (i : Nat) (cs : List Value) (j : Nat) (x : Value), css[i]? = some cs → cs[j]? = some x → w.cell? ⟨q.1, q.2 + (i * c + j), none⟩ = some x) ∧ cap ≤ maxLen ∧ n ≤ cap := by
  obtain ⟨a0, len0, cap0, rfl⟩ := okWide_slice ht hval
  obtain ⟨fuel, hf⟩ := h
  rcases DataW.trod_slice ht hf with ⟨hcs, _⟩ | ⟨a, len, cap, elems, rest, nf, _, hcs, _, _, hl, hm, hlen, he1, he2, _⟩
  · have hcs' : Value.slice a0 len0 cap0 = .slice none 0 0 := by simpa [Value.cells] using hcs
    cases hcs'
    exact ⟨0, 0, [], (0, 0), rfl, fun cs hx => by simp at hx, fun L i _ => ⟨none, rfl, Nat.le_refl _, .inl rfl⟩, fun i cs j x hi => by simp at hi, Nat.zero_le _, Nat.le_refl _⟩
  · obtain ⟨e1, e2, e3⟩ : a0 = some a ∧ len0 = len ∧ cap0 = cap := by simpa [Value.cells] using hcs
    subst e1 e2 e3
    obtain ⟨hr1, hr2⟩ := he2 rfl
    rw [hc] at he1 hr2
    have each : ∀ i, i < cap0 → ∃ cs, w.cells? 0 (a.add (i * c)) c = some cs ∧ Q cs := by
      intro i hi
      by_cases hil : i < len0
      · have h1 := he1 i hil
        rw [List.getElem?_eq_getElem (by omega), Option.bind_eq_some_iff] at h1
        obtain ⟨cs, g1, g2⟩ := h1
        exact ⟨cs, g1, hel _ _ _ g2⟩
      · have h1 := hr2 (i - len0) (by omega)
        rw [show len0 + (i - len0) = i by omega, List.getElem?_eq_getElem (by omega), Option.bind_eq_some_iff] at h1
        obtain ⟨cs, g1, g2⟩ := h1
        exact ⟨cs, g1, hel _ _ _ g2⟩
    have hpl := arg_place (w := w) (cap := cap0) (a := a) (fun hc1 => by
      obtain ⟨cs, g1, _⟩ := each 0 hc1
      obtain ⟨g2, g3, g4⟩ := World.cells?_some g1
      have := g4 0 hc0
      have e0 : (a.add (0 * c)).add 0 = a := by simp [Addr.add]
      rw [e0] at this
      rw [this, List.getElem?_eq_getElem (by omega)]; rfl)
    refine ⟨len0, cap0, (List.range len0).map (fun i => (w.cells? 0 (a.add (i * c)) c).getD []), (a.block, a.off), by simp, ?_, fun L i hL => ⟨some a, rfl, hl, ?_⟩, ?_, hm, hl⟩
    · intro cs hcs
      simp only [List.mem_map, List.mem_range] at hcs
      obtain ⟨i, hi, rfl⟩ := hcs
      obtain ⟨cs, g1, g2⟩ := each i (by omega)
      rw [g1]
      exact ⟨g2, (World.cells?_some g1).2.1⟩
    · rcases Nat.eq_zero_or_pos cap0 with h0 | h0
      · exact .inl h0
      · exact .inr ⟨a.block, a.off, hL, by rw [hpl h0]; simp [pathOff]⟩
    · intro i cs j x hi hj
      have hil : i < len0 := by
        have := getElem?_lt hi
        simpa using this
      obtain ⟨cs', g1, g2⟩ := each i (by omega)
      simp only [List.getElem?_map, List.getElem?_range hil, Option.map_some, Option.some.injEq] at hi
      rw [g1] at hi
      simp only [Option.getD_some] at hi
      subst hi
      obtain ⟨_, g3, g4⟩ := World.cells?_some g1
      have hjc : j < c := by have := getElem?_lt hj; omega
      have h5 := g4 j hjc
      rw [hpl (by omega), add_off, add_off] at h5
      rw [hj] at h5
      rw [← Nat.add_assoc]
      exact h5
theorem trod_float {H : Type} {enc : TypeId × Value → H} {P : Program} {w : World} {base : Nat} {sp : Nat → Bool} {held : Bool} {fuel : Nat} {t : TypeId} {k : FloatKind} {cs : List Value} {x : DataW H × List MemPlace} (ht : P.underlying t = some (.float k)) (h : DataW.trod enc P w base sp held fuel t cs = some x) : ∃ b, cs = [.float k b] ∧ (Lit.float k b).wf = true := by
  cases fuel with
  | zero => simp [DataW.trod] at h
  | succ n =>
    unfold DataW.trod at h
    rw [ht] at h
    split at h <;> simp_all
theorem arg_floats {H : Type} {enc : TypeId × Value → H} {P : Program} {w : World} {t e : TypeId} {v : Value} {d : DataW H} {ps : List MemPlace} {b0 : Nat} (ht : P.underlying t = some (.slice e)) (he : P.underlying e = some (.float .f32)) (hc : P.cellsOf e = 1)
    (hval : Value.okWide P w .any b0 t v) (h : DataW.Trod enc P w 0 (fun _ => true) true t v d ps) :
    ∃ (n cap : Nat) (xs : List Nat) (q : Nat × Nat), xs.length = n ∧ (∀ (L : Locs) (i : Nat), L[i]? = some q → Rv L (.sl i [] 1 0 n cap) v) ∧ (∀ (L : Locs), EntOk L w ⟨false, .af n xs, 0⟩ q) ∧ (∀ x ∈ xs, WfF x) ∧ cap ≤ maxLen ∧ n ≤ cap := by
  obtain ⟨n, cap, css, q, h1, h2, h3, h4, h5, h6⟩ := arg_slice (Q := fun cs => ∃ b, cs = [.float .f32 b] ∧ (Lit.float .f32 b).wf = true) ht hc (by decide) (fun fuel cs y hy => trod_float he hy) hval h
  have hF : ∀ (css : List (List Value)), (∀ cs ∈ css, ∃ b, cs = [.float .f32 b] ∧ (Lit.float .f32 b).wf = true) → ∀ v ∈ css.flatten, ∃ b, v = .float .f32 b ∧ FloatKind.f32.has b := by
    intro css hq v hv
    rw [List.mem_flatten] at hv
    obtain ⟨cs, hcs, hv⟩ := hv
    obtain ⟨b, rfl, hb⟩ := hq cs hcs
    simp only [List.mem_singleton] at hv
    exact ⟨b, hv, by simpa [Lit.wf, FloatKind.has] using hb⟩
  have hq : ∀ cs ∈ css, ∃ b, cs = [.float .f32 b] ∧ (Lit.float .f32 b).wf = true := fun cs hcs => (h2 cs hcs).1
  obtain ⟨g1, g2⟩ := Ff_bits css.flatten (hF css hq)
  have hfl : ∀ (css : List (List Value)), (∀ cs ∈ css, ∃ b, cs = [.float .f32 b] ∧ (Lit.float .f32 b).wf = true) → css.flatten.length = css.length ∧ ∀ (j : Nat) (x : Value), css.flatten[j]? = some x → css[j]? = some [x] := by
    intro css
    induction css with
    | nil => intro _; exact ⟨rfl, fun j x hj => by simp at hj⟩
    | cons c cs ih =>
      intro hq
      obtain ⟨b, rfl, _⟩ := hq c (by simp)
      obtain ⟨i1, i2⟩ := ih (fun x hx => hq x (by simp [hx]))
      refine ⟨by simp [i1], fun j x hj => ?_⟩
      cases j with
      | zero => simp at hj; subst hj; rfl
      | succ j => simp only [List.flatten_cons, List.cons_append, List.nil_append, List.getElem?_cons_succ] at hj ⊢; exact i2 j x hj
  obtain ⟨i1, i2⟩ := hfl css hq
  refine ⟨n, cap, css.flatten.map bitsF, q, by rw [List.length_map, i1, h1], h3, fun L => ⟨⟨css.flatten, ⟨by rw [List.length_map, i1, h1], g1⟩, fun j x hj => ?_⟩, fun ho => by cases ho⟩, g2, h5, h6⟩
  have := h4 j [x] 0 x (i2 j x hj) rfl
  simpa using this
theorem arg_pairs {H : Type} {enc : TypeId × Value → H} {P : Program} {w : World} {t e : TypeId} {f0 f1 : Field} {v : Value} {d : DataW H} {ps : List MemPlace} {b0 : Nat} (ht : P.underlying t = some (.slice e)) (he : P.underlying e = some (.struct #[f0, f1])) (hc : P.cellsOf e = 2)
    (hf0 : P.underlying f0.type = some (.int .i64)) (hf1 : P.underlying f1.type = some (.int .i64)) (ho0 : f0.offset = 0) (ho1 : f1.offset = 1) (hc0 : P.cellsOf f0.type = 1) (hc1 : P.cellsOf f1.type = 1)
    (hval : Value.okWide P w .any b0 t v) (h : DataW.Trod enc P w 0 (fun _ => true) true t v d ps) :
    ∃ (n cap : Nat) (xs : List (Int × Int)) (q : Nat × Nat), xs.length = n ∧ (∀ (L : Locs) (i : Nat), L[i]? = some q → Rv L (.sl i [] 2 0 n cap) v) ∧ (∀ (L : Locs), EntOk L w ⟨false, .ap n xs, 0⟩ q) ∧ (∀ x ∈ xs, (Lit.int .i64 x.1).wf = true ∧ (Lit.int .i64 x.2).wf = true) ∧ cap ≤ maxLen ∧ n ≤ cap := by
  obtain ⟨n, cap, css, q, h1, h2, h3, h4, h5, h6⟩ := arg_slice (Q := fun cs => ∃ a b, cs = [.int .i64 a, .int .i64 b] ∧ (Lit.int .i64 a).wf = true ∧ (Lit.int .i64 b).wf = true) ht hc (by decide) (fun fuel cs y hy => by
    obtain ⟨xs, nf, _, _, hl, hxl, hx⟩ := DataW.trod_struct he hy
    rw [hc] at hl
    have x0 := hx 0 f0 rfl
    have x1 := hx 1 f1 rfl
    rw [ho0, hc0] at x0
    rw [ho1, hc1] at x1
    have hx2 : xs.length = 2 := hxl
    rw [List.getElem?_eq_getElem (by omega)] at x0 x1
    obtain ⟨a, e0, _, w0⟩ := DataW.trod_int hf0 x0
    obtain ⟨b, e1, _, w1⟩ := DataW.trod_int hf1 x1
    refine ⟨a, b, ?_, w0, w1⟩
    match cs, hl with
    | [c0, c1], _ => simp at e0 e1; rw [e0, e1]) hval h
  have hq : ∀ cs ∈ css, ∃ a b, cs = [.int .i64 a, .int .i64 b] ∧ (Lit.int .i64 a).wf = true ∧ (Lit.int .i64 b).wf = true := fun cs hcs => (h2 cs hcs).1
  have hfl : ∀ (css : List (List Value)), (∀ cs ∈ css, ∃ a b, cs = [.int .i64 a, .int .i64 b] ∧ (Lit.int .i64 a).wf = true ∧ (Lit.int .i64 b).wf = true) → ∃ xs : List (Int × Int), xs.length = css.length ∧ (∀ x ∈ xs, (Lit.int .i64 x.1).wf = true ∧ (Lit.int .i64 x.2).wf = true) ∧
      ∀ (j : Nat) (x : Value), (cellsP xs)[j]? = some x → ∃ cs, css[j / 2]? = some cs ∧ cs[j % 2]? = some x := by
    intro css
    induction css with
    | nil => intro _; exact ⟨[], rfl, fun x hx => by simp at hx, fun j x hj => by simp [cellsP] at hj⟩
    | cons c cs ih =>
      intro hq
      obtain ⟨a, b, rfl, wa, wb⟩ := hq c (by simp)
      obtain ⟨xs, i1, i2, i3⟩ := ih (fun x hx => hq x (by simp [hx]))
      refine ⟨(a, b) :: xs, by simp [i1], fun x hx => ?_, fun j x hj => ?_⟩
      · simp only [List.mem_cons] at hx
        rcases hx with rfl | hx
        · exact ⟨wa, wb⟩
        · exact i2 x hx
      · simp only [cellsP] at hj
        match j, hj with
        | 0, hj => exact ⟨_, rfl, by simpa using hj⟩
        | 1, hj => exact ⟨_, rfl, by simpa using hj⟩
        | j + 2, hj =>
          simp only [List.getElem?_cons_succ] at hj
          obtain ⟨cs', g1, g2⟩ := i3 j x hj
          refine ⟨cs', ?_, by rw [show (j + 2) % 2 = j % 2 by omega]; exact g2⟩
          rw [show (j + 2) / 2 = j / 2 + 1 by omega, List.getElem?_cons_succ]
          exact g1
  obtain ⟨xs, i1, i2, i3⟩ := hfl css hq
  refine ⟨n, cap, xs, q, by omega, h3, fun L => ⟨⟨cellsP xs, ⟨by omega, rfl⟩, fun j x hj => ?_⟩, fun ho => by cases ho⟩, i2, h5, h6⟩
  obtain ⟨cs, g1, g2⟩ := i3 j x hj
  have := h4 (j / 2) cs (j % 2) x g1 g2
  rw [show j / 2 * 2 + j % 2 = j by omega] at this
  exact this
end Go.Fw
