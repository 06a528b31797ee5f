import Derived.Test.YtfkbgfpidolhhaaFwNum2
namespace Go.Fw
open Go
/-! the numbers one and minus one -/
def oneW (b : Bool) : Nat := if b = true then 3212836864 else 1065353216
theorem read_one (b : Bool) : Ieee.single.read (oneW b) = .number b 8388608 (-23) := by cases b <;> rfl
theorem neq_num {x y : Nat} {t : Bool} {n : Nat} {j : Int} (hy : Ieee.single.read y = .number t n j) (h : cmF .neq .f32 x y = false) : ∃ s m i, Ieee.single.read x = .number s m i ∧ vOf s m i = vOf t n j := by
  have ho : FloatKind.f32.format.order x y = some .eq := by
    unfold cmF at h
    simpa using h
  have ho3 : Ieee.single.order x y = some .eq := ho
  have ho2 := ho3
  unfold Ieee.Format.order at ho2
  cases hr : Ieee.single.read x with
  | nan s t => rw [hr, hy] at ho2; simp [Ieee.Datum.order] at ho2
  | infinity s => rw [hr, hy] at ho2; simp only [Ieee.Datum.order] at ho2; split at ho2 <;> cases ho2
  | number s m i =>
    refine ⟨s, m, i, rfl, ?_⟩
    have := order_v hr hy
    rw [ho3] at this
    exact Int.compare_eq_eq.1 (Option.some.inj this.symm)
theorem one_unique {x : Nat} {b : Bool} (hw : WfF x) (h : cmF .neq .f32 x (oneW b) = false) : x = oneW b := by
  obtain ⟨s, m, i, hr, hv⟩ := neq_num (read_one b) h
  have hx : x < 2 ^ 32 := by
    obtain ⟨c, hc, rfl⟩ := hw
    unfold canon
    split
    · decide
    · exact hc
  have hv1 : ∀ b : Bool, vOf b 8388608 (-23) = if b = true then -((8388608 * 2 ^ 126 : Nat) : Int) else ((8388608 * 2 ^ 126 : Nat) : Int) := fun b => by cases b <;> decide
  rw [hv1] at hv
  unfold Ieee.Format.read at hr
  simp only [single_binade, single_inf, single_least, single_sign] at hr
  unfold vOf Ieee.signed at hv
  rw [Nat.shiftLeft_eq] at hv
  have hsm : s = b ∧ m * 2 ^ (i + 149).toNat = 8388608 * 2 ^ 126 := by
    have hp : 0 < 8388608 * 2 ^ 126 := by decide
    generalize 8388608 * 2 ^ 126 = B at hv hp ⊢
    generalize m * 2 ^ (i + 149).toNat = q at hv ⊢
    cases s <;> cases b <;> simp at hv ⊢ <;> omega
  obtain ⟨rfl, hm⟩ := hsm
  split at hr
  · rename_i hlt
    injection hr with h1 h2 h3
    subst h2 h3
    exfalso
    have e : ((-149 : Int) + 149).toNat = 0 := by decide
    rw [e, Nat.pow_zero, Nat.mul_one] at hm
    have : 8388608 * 1 ≤ 8388608 * 2 ^ 126 := Nat.mul_le_mul_left _ (Nat.one_le_two_pow)
    rw [← hm] at this
    omega
  · split at hr
    · rename_i h1 h2
      injection hr with g1 g2 g3
      have hi : (i + 149).toNat = x % 2147483648 / 8388608 - 1 := by omega
      rw [hi] at hm
      have hmr : m < 16777216 ∧ 8388608 ≤ m := by
        have := Nat.mod_lt (x % 2147483648) (show 0 < 8388608 by decide)
        omega
      obtain ⟨E, hE⟩ : ∃ E, E = x % 2147483648 / 8388608 - 1 := ⟨_, rfl⟩
      rw [← hE] at hm
      have hE126 : E = 126 := by
        rcases Nat.lt_trichotomy E 126 with g | g | g
        · exfalso
          have a1 : m * 2 ^ E ≤ 16777215 * 2 ^ 125 := Nat.mul_le_mul (by omega) (Nat.pow_le_pow_right (by decide) (by omega))
          rw [hm] at a1
          exact absurd a1 (by decide)
        · exact g
        · exfalso
          have a1 : 8388608 * 2 ^ 127 ≤ m * 2 ^ E := Nat.mul_le_mul hmr.2 (Nat.pow_le_pow_right (by decide) (by omega))
          rw [hm] at a1
          exact absurd a1 (by decide)
      rw [hE126] at hm
      have hm2 : m = 8388608 := Nat.eq_of_mul_eq_mul_right (Nat.two_pow_pos 126) hm
      have hrung : x % 2147483648 = 1065353216 := by omega
      cases s with
      | true =>
        have g1' : x / 2147483648 % 2 = 1 := by simpa using g1
        show x = 3212836864
        omega
      | false =>
        have g1' : ¬ x / 2147483648 % 2 = 1 := by simpa using g1
        show x = 1065353216
        omega
    · split at hr <;> cases hr
theorem mul_one' (a b : Bool) : arF .mul .f32 (oneW a) (oneW b) = oneW (a ^^ b) := by
  unfold arF
  cases a <;> cases b <;> rfl
/-- small whole numbers are finite floats, and one more or less is another -/
def zW (n : Nat) : Nat := iToF .f32 ((n : Int) - 100)
theorem zW_fine : ∀ n, n < 200 → cmF .eql .f32 (arF .sub .f32 (zW n) (zW n)) 0 = true := by
  have h : ∀ n : Fin 200, cmF .eql .f32 (arF .sub .f32 (zW n) (zW n)) 0 = true := by decide +kernel
  exact fun n hn => h ⟨n, hn⟩
theorem zW_add : ∀ n, 0 < n → n < 199 → ∀ b, arF .add .f32 (zW n) (oneW b) = zW (if b = true then n - 1 else n + 1) := by
  have h : ∀ n : Fin 200, 0 < (n : Nat) → ∀ b : Bool, arF .add .f32 (zW n) (oneW b) = zW (if b = true then (n : Nat) - 1 else (n : Nat) + 1) := by decide +kernel
  exact fun n hn hn2 b => h ⟨n, by omega⟩ hn b
theorem zW_zero : zW 100 = 0 := by decide +kernel
end Go.Fw
