import Derived.Test.YtfkbgfpidolhhaaFwKeep
import Derived.ChangeSlices
namespace Go.Fw
open Go Go.RowKit Go.ChangeShapes Go.WideShapes
/-- where a slice that came in lies -/
theorem arg_place {w : World} {cap : Nat} {a : Addr} (h : 0 < cap → (w.cell? a).isSome = true) : 0 < cap → a = ⟨a.block, a.off, none⟩ := by
  intro hc
  have := h hc
  cases a with
  | mk b o s =>
    cases s with
    | none => rfl
    | some s =>
      unfold World.cell? at this
      split at this <;> simp at this
theorem arg_ints {H : Type} {enc : TypeId × Value → H} {P : Program} {w : World} {t e : TypeId} {v : Value} {d : DataW H} {ps : List MemPlace} {b0 : Nat} (ht : P.underlying t = some (.slice e)) (he : P.underlying e = some (.int .i64)) (hc : P.cellsOf e = 1)
    (hval : Value.okWide P w .any b0 t v) (h : DataW.Trod enc P w 0 (fun _ => true) true t v d ps) :
    ∃ (n cap : Nat) (xs : List Int) (q : Nat × Nat), xs.length = n ∧ (∀ (L : Locs) (i : Nat), L[i]? = some q → Rv L (.sl i [] 1 0 n cap) v) ∧ (∀ (L : Locs), EntOk L w ⟨false, .ai n xs, 0⟩ q) ∧ (∀ x ∈ xs, (Lit.int .i64 x).wf = true) ∧ cap ≤ maxLen ∧ n ≤ cap := by
  obtain ⟨a0, len0, cap0, rfl⟩ := okWide_slice ht hval
  obtain ⟨fuel, hf⟩ := h
  rcases open_ints ht he hc hf with ⟨hcs, _⟩ | ⟨a, len, cap, zs, hcs, _, hl, hm, hz, _, hcell, hwf⟩
  · have hcs' : Value.slice a0 len0 cap0 = .slice none 0 0 := by simpa [Value.cells] using hcs
    cases hcs'
    exact ⟨0, 0, [], (0, 0), rfl, fun L i _ => ⟨none, rfl, Nat.le_refl _, .inl rfl⟩, fun L => ⟨⟨[], ⟨rfl, rfl⟩, fun j v hj => by simp at hj⟩, fun ho => by cases ho⟩, fun x hx => by simp at hx, Nat.zero_le _, Nat.le_refl _⟩
  · obtain ⟨e1, e2, e3⟩ : a0 = some a ∧ len0 = len ∧ cap0 = cap := by simpa [Value.cells] using hcs
    subst e1 e2 e3
    simp only [if_true] at hz
    have hpl := arg_place (w := w) (cap := cap0) (a := a) (fun hc0 => by
      have := hcell 0 (by omega)
      have e0 : a.add 0 = a := by simp [Addr.add]
      rw [e0] at this; rw [this]; rfl)
    refine ⟨len0, cap0, zs.take len0, (a.block, a.off), by simp [hz]; omega, fun L i hL => ⟨some a, rfl, hl, ?_⟩, fun L => ⟨⟨(zs.take len0).map (Value.int .i64), ⟨by simp [hz]; omega, rfl⟩, fun j u hj => ?_⟩, fun ho => by cases ho⟩, fun x hx => hwf x (List.mem_of_mem_take hx), hm, hl⟩
    · rcases Nat.eq_zero_or_pos cap0 with h0 | h0
      · exact .inl h0
      · exact .inr ⟨a.block, a.off, hL, by rw [hpl h0]; simp [pathOff]⟩
    · have hjl : j < len0 := by
        have := getElem?_lt hj
        simp at this; omega
      have h0 : 0 < cap0 := by omega
      have := hcell j (by omega)
      rw [hpl h0, add_off] at this
      rw [this]
      simp only [List.getElem?_map, List.getElem?_take, hjl, if_true, Option.map_eq_some_iff] at hj
      obtain ⟨z, hz1, rfl⟩ := hj
      simp [hz1]
end Go.Fw
