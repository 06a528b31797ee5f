import Derived.Test.YtfkbgfpidolhhaaFwNil
namespace Go.Fw
open Go Go.RowKit Go.ChangeShapes Go.WideShapes
/-- a float's bits, as a program may hold them -/
def WfF (x : Nat) : Prop := ∃ b, FloatKind.f32.has b ∧ canon .f32 b = x
theorem okWide_i64 {P : Program} {w : World} {r : Reach} {b0 t : Nat} {v : Value} (ht : P.underlying t = some (.int .i64)) (h : Cell.okWide P w r b0 t v) : ∃ n, v = .int .i64 n ∧ IntKind.i64.has n := by
  unfold Cell.okWide at h
  rw [ht] at h
  simp only [Cell.ok, ht] at h
  cases v <;> simp_all
theorem okWide_f32 {P : Program} {w : World} {r : Reach} {b0 t : Nat} {v : Value} (ht : P.underlying t = some (.float .f32)) (h : Cell.okWide P w r b0 t v) : ∃ n, v = .float .f32 n ∧ FloatKind.f32.has n := by
  unfold Cell.okWide at h
  rw [ht] at h
  simp only [Cell.ok, ht] at h
  cases v <;> simp_all
def bitsF : Value → Nat
  | .float _ b => canon .f32 b
  | _ => 0
theorem Ff_bits : ∀ (cs : List Value), (∀ v ∈ cs, ∃ b, v = .float .f32 b ∧ FloatKind.f32.has b) → Ff (cs.map bitsF) cs ∧ ∀ x ∈ cs.map bitsF, WfF x
  | [], _ => ⟨rfl, fun x hx => by cases hx⟩
  | v :: cs, h => by
    obtain ⟨b, rfl, hb⟩ := h v (by simp)
    obtain ⟨h1, h2⟩ := Ff_bits cs (fun v hv => h v (by simp [hv]))
    refine ⟨⟨b, cs, rfl, rfl, h1⟩, fun x hx => ?_⟩
    simp only [List.map_cons, List.mem_cons] at hx
    rcases hx with rfl | hx
    · exact ⟨b, hb, rfl⟩
    · exact h2 x hx
/-- a picture that comes in -/
theorem arg_pic {P : Program} {w : World} {r : Reach} {b0 t tI tF : Nat} {fs : Array Field} {v : Value} (ht : P.underlying t = some (.struct fs)) (hc : P.cellsOf t = 65) (hts : P.cellTypes P.depth t = some (tI :: List.replicate 64 tF))
    (hI : P.underlying tI = some (.int .i64)) (hF : P.underlying tF = some (.float .f32)) (hval : Value.okWide P w r b0 t v) :
    ∃ (s : Int) (xs : List Nat), xs.length = 64 ∧ (∀ x ∈ xs, WfF x) ∧ ∀ L : Locs, Rv L (.st [AV.int s, .af 64 xs]) v := by
  simp only [Value.okWide, ht] at hval
  obtain ⟨cs, rfl, hsz, ts, hts', _, hcell⟩ := hval
  rw [hts] at hts'
  cases hts'
  rw [hc] at hsz
  obtain ⟨l⟩ := cs
  cases l with
  | nil => simp at hsz
  | cons v0 rest =>
    simp only [List.size_toArray, List.length_cons] at hsz
    obtain ⟨u, hu, h0⟩ := hcell 0 v0 (by simp)
    simp at hu
    subst hu
    obtain ⟨s, rfl, _⟩ := okWide_i64 hI h0
    obtain ⟨h1, h2⟩ := Ff_bits rest (fun v hv => by
      obtain ⟨i, hi, rfl⟩ := List.getElem_of_mem hv
      obtain ⟨u, hu, h0⟩ := hcell (i + 1) rest[i] (by simp [hi])
      have hl : (tI :: List.replicate 64 tF).length = 65 := by simp
      rw [hl, Nat.mod_eq_of_lt (by omega), List.getElem?_cons_succ, List.getElem?_replicate, if_pos (by omega)] at hu
      cases hu
      exact okWide_f32 hF h0)
    refine ⟨s, rest.map bitsF, by simp; omega, h2, fun L => ⟨_, rfl, [.int .i64 s], rest, rfl, ⟨_, rfl, rfl, rfl⟩, rest, [], by simp, ⟨by simp; omega, h1⟩, rfl⟩⟩
/-- a float that comes in -/
theorem arg_f32 {P : Program} {w : World} {r : Reach} {b0 t : Nat} {v : Value} (ht : P.underlying t = some (.float .f32)) (hval : Value.okWide P w r b0 t v) : ∃ x, WfF x ∧ ∀ L : Locs, Rv L (.flt .f32 x) v := by
  simp only [Value.okWide, ht] at hval
  obtain ⟨b, rfl, hb⟩ := okWide_f32 ht hval
  exact ⟨canon .f32 b, ⟨b, hb, rfl⟩, fun L => ⟨b, rfl, rfl⟩⟩
end Go.Fw
