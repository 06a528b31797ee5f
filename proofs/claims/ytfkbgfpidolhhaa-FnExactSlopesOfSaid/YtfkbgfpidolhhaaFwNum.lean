import Derived.Test.YtfkbgfpidolhhaaFwPic
namespace Go.Fw
open Go
/-! what floats do, where a law needs it -/
/-- a finite number -/
def isNum (x : Nat) : Prop := ∃ s m e, Ieee.single.read x = .number s m e
theorem read_zero : Ieee.single.read 0 = .number false 0 Ieee.single.leastPlace := by rfl
theorem shl_zero {m a : Nat} (h : m <<< a = 0) : m = 0 := by
  rw [Nat.shiftLeft_eq] at h
  rcases Nat.mul_eq_zero.1 h with h | h
  · exact h
  · exact absurd h (Nat.ne_of_gt (Nat.two_pow_pos a))
theorem signed_zero {s : Bool} {m a : Nat} (h : Ieee.signed s m a = 0) : m = 0 := by
  unfold Ieee.signed at h
  split at h <;> exact shl_zero (a := a) (by omega)
theorem order_zero {x : Nat} (h : Ieee.single.order x 0 = some .eq) : ∃ s e, Ieee.single.read x = .number s 0 e := by
  unfold Ieee.Format.order at h
  rw [read_zero] at h
  cases hr : Ieee.single.read x with
  | nan s t => rw [hr] at h; simp [Ieee.Datum.order] at h
  | infinity s => rw [hr] at h; simp only [Ieee.Datum.order] at h; split at h <;> cases h
  | number s m i =>
    rw [hr] at h
    simp only [Ieee.Datum.order, Option.some.injEq] at h
    have h0 : Ieee.signed false 0 (Ieee.single.leastPlace - min i Ieee.single.leastPlace).toNat = 0 := by unfold Ieee.signed; simp
    rw [h0] at h
    have h1 := signed_zero (Std.LawfulEqCmp.eq_of_compare h)
    subst h1
    exact ⟨s, i, rfl⟩
theorem zero_order {x : Nat} {s : Bool} {e : Int} (h : Ieee.single.read x = .number s 0 e) : Ieee.single.order x 0 = some .eq := by
  unfold Ieee.Format.order
  rw [read_zero, h]
  simp only [Ieee.Datum.order]
  have h0 : ∀ (b : Bool) (a : Nat), Ieee.signed b 0 a = 0 := fun b a => by unfold Ieee.signed; simp
  rw [h0, h0]
  rfl
/-- a zero of either sign -/
def zl (x : Nat) : Prop := cmF .eql .f32 x 0 = true
theorem zl_iff {x : Nat} : zl x ↔ ∃ s e, Ieee.single.read x = .number s 0 e := by
  unfold zl cmF
  constructor
  · intro h
    have h2 : FloatKind.f32.format.order x 0 = some .eq := by simpa using h
    exact order_zero h2
  · rintro ⟨s, e, h⟩
    have h2 : FloatKind.f32.format.order x 0 = some .eq := zero_order h
    simp [h2]
theorem zl_lss {x : Nat} (h : zl x) : cmF .lss .f32 x 0 = false := by
  obtain ⟨s, e, h⟩ := zl_iff.1 h
  have h1 : FloatKind.f32.format.order x 0 = some .eq := zero_order h
  unfold cmF; simp [h1]
theorem zl_neq {x : Nat} (h : zl x) : cmF .neq .f32 x 0 = false := by
  obtain ⟨s, e, h⟩ := zl_iff.1 h
  have h1 : FloatKind.f32.format.order x 0 = some .eq := zero_order h
  unfold cmF; simp [h1]
theorem canon_neg : canon .f32 2147483648 = 2147483648 := by rfl
theorem word_zero (b : Bool) : Ieee.single.word b 0 = if b then 2147483648 else 0 := by cases b <;> rfl
theorem write_zero (b : Bool) (e : Int) : Ieee.single.write (.number b 0 e) = if b then 2147483648 else 0 := by
  unfold Ieee.Format.write Ieee.Format.nearest
  simp only [if_true]
  exact word_zero b
theorem zl_word (b : Bool) : zl (canon .f32 (if b then 2147483648 else 0)) := by
  rw [zl_iff]
  cases b with
  | true => exact ⟨true, _, by simp only [if_true, canon_neg]; rfl⟩
  | false => exact ⟨false, _, by simp only [Bool.false_eq_true, if_false]; rfl⟩
theorem zl_mul {r x : Nat} (hr : isNum r) (hx : zl x) : zl (arF .mul .f32 r x) := by
  obtain ⟨s, m, i, hr⟩ := hr
  obtain ⟨t, j, hx⟩ := zl_iff.1 hx
  have h : FloatKind.f32.format.mul r x = some (if (s ^^ t) then 2147483648 else 0) := by
    show Ieee.single.mul r x = _
    unfold Ieee.Format.mul
    rw [hr, hx]
    simp only [Ieee.Datum.product, Nat.mul_zero, Option.map_some]
    rw [write_zero]
  unfold arF
  simp only [h]
  exact zl_word _
theorem sub_self_num {x : Nat} (h : isNum x) : arF .sub .f32 x x = 0 := by
  obtain ⟨s, m, i, hr⟩ := h
  have h : FloatKind.f32.format.sub x x = some 0 := by
    show Ieee.single.sub x x = _
    unfold Ieee.Format.sub
    rw [hr]
    simp only [Ieee.Datum.opposite, Ieee.Datum.sum]
    have h0 : Ieee.signed s m (i - min i i).toNat + Ieee.signed (!s) m (i - min i i).toNat = 0 := by
      cases s <;> simp [Ieee.signed] <;> omega
    rw [h0]
    cases s <;> simp [write_zero]
  unfold arF
  simp only [h]
  rfl
/-- finite: the test that both programs take -/
theorem fine_iff {x : Nat} : cmF .eql .f32 (arF .sub .f32 x x) 0 = true ↔ isNum x := by
  constructor
  · intro h
    cases hr : Ieee.single.read x with
    | number s m e => exact ⟨s, m, e, hr⟩
    | infinity s =>
      have h1 : FloatKind.f32.format.sub x x = none := by
        show Ieee.single.sub x x = _
        unfold Ieee.Format.sub
        rw [hr]
        cases s <;> rfl
      unfold arF at h
      simp only [h1] at h
      have : cmF .eql .f32 (nanW .f32) 0 = false := by unfold cmF; rfl
      rw [this] at h; cases h
    | nan s t =>
      have h1 : FloatKind.f32.format.sub x x = none := by
        show Ieee.single.sub x x = _
        unfold Ieee.Format.sub
        rw [hr]
        rfl
      unfold arF at h
      simp only [h1] at h
      have : cmF .eql .f32 (nanW .f32) 0 = false := by unfold cmF; rfl
      rw [this] at h; cases h
  · intro h
    rw [sub_self_num h]
    unfold cmF
    rfl
theorem zl_num {x : Nat} (h : zl x) : isNum x := by
  obtain ⟨s, e, h⟩ := zl_iff.1 h
  exact ⟨s, 0, e, h⟩
/-- what is not finite stays so in a sum -/
theorem add_not {x y : Nat} (h : ¬ isNum x) : ¬ isNum (arF .add .f32 x y) := by
  have hn : ¬ isNum (nanW .f32) := by
    rintro ⟨s, m, e, h⟩
    have : Ieee.single.read (nanW .f32) = .nan false 4194304 := by rfl
    rw [this] at h; cases h
  have hi : ∀ b, ¬ isNum (canon .f32 (Ieee.single.write (.infinity b))) := by
    intro b
    rintro ⟨s, m, e, h⟩
    cases b with
    | true =>
      have : Ieee.single.read (canon .f32 (Ieee.single.write (.infinity true))) = .infinity true := by rfl
      rw [this] at h; cases h
    | false =>
      have : Ieee.single.read (canon .f32 (Ieee.single.write (.infinity false))) = .infinity false := by rfl
      rw [this] at h; cases h
  have key : FloatKind.f32.format.add x y = none ∨ ∃ b, FloatKind.f32.format.add x y = some (Ieee.single.write (.infinity b)) := by
    show Ieee.single.add x y = _ ∨ ∃ b, Ieee.single.add x y = _
    unfold Ieee.Format.add
    cases hr : Ieee.single.read x with
    | number s m e => exact absurd ⟨s, m, e, hr⟩ h
    | nan s t => left; rfl
    | infinity s =>
      cases hy : Ieee.single.read y with
      | nan u t => left; cases s <;> rfl
      | infinity t =>
        by_cases hst : s = t
        · right; exact ⟨s, by simp [Ieee.Datum.sum, hst]⟩
        · left; simp [Ieee.Datum.sum, hst]
      | number t n j => right; exact ⟨s, rfl⟩
  unfold arF
  rcases key with h1 | ⟨b, h1⟩
  · simp only [h1]; exact hn
  · simp only [h1]; exact hi b
end Go.Fw
