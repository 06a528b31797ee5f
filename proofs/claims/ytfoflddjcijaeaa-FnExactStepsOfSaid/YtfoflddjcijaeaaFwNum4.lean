/- A part of the framework of these proofs. -/
import Derived.Test.YtfoflddjcijaeaaFwNum2
namespace Go.Fw
open Go
/-! from single to double, to whole numbers, and back: all exact -/
theorem dbl_least : Ieee.double.leastPlace = -1074 := by decide
theorem dbl_binade : Ieee.double.binade = 4503599627370496 := by decide
theorem dbl_inf : Ieee.double.infRung = 9218868437227405312 := by decide
theorem dbl_sign : Ieee.double.signWeight = 9223372036854775808 := by decide
/-- a number's whole part -/
def cutN (m : Nat) (e : Int) : Nat := (m <<< e.toNat) / 2 ^ (-e).toNat
theorem cut_pos {way : Ieee.Toward} (hw : way = .zero ∨ way = .down) (n d : Nat) : way.cut false n d = n / 2 ^ d := by
  have key : (let gap := 1 <<< min d (n.log2 + 2); n / gap + 0) = n / 2 ^ d := by
    simp only [Nat.shiftLeft_eq, Nat.one_mul, Nat.add_zero]
    by_cases hd : d ≤ n.log2 + 2
    · rw [Nat.min_eq_left hd]
    · rw [Nat.min_eq_right (by omega)]
      have h1 : n < 2 ^ (n.log2 + 1) := Nat.lt_log2_self
      have h2 : 2 ^ (n.log2 + 1) ≤ 2 ^ (n.log2 + 2) := Nat.pow_le_pow_right (by decide) (by omega)
      have h3 : 2 ^ (n.log2 + 1) ≤ 2 ^ d := Nat.pow_le_pow_right (by decide) (by omega)
      rw [Nat.div_eq_of_lt (by omega), Nat.div_eq_of_lt (by omega)]
  rcases hw with rfl | rfl
  · exact key
  · exact key
theorem integral_pos {way : Ieee.Toward} (hw : way = .zero ∨ way = .down) (m : Nat) (e : Int) : (Ieee.Datum.number false m e).integral way = .number false (cutN m e) 0 := by
  simp only [Ieee.Datum.integral, cut_pos hw]
  rfl
theorem toInt_pos (m : Nat) (e : Int) : (Ieee.Datum.number false m e).toInt .zero = some ((cutN m e : Nat) : Int) := by
  unfold Ieee.Datum.toInt
  rw [integral_pos (.inl rfl)]
  simp [Ieee.signed]
/-- by the value alone -/
theorem cut_val {m : Nat} {e : Int} (B : Nat) (h : -(B : Int) ≤ e) : cutN m e = m * 2 ^ (e + B).toNat / 2 ^ B := by
  unfold cutN
  rw [Nat.shiftLeft_eq]
  rcases Int.lt_or_le e 0 with h0 | h0
  · have e1 : e.toNat = 0 := by omega
    obtain ⟨a, ha⟩ : ∃ a : Nat, (e + B).toNat = a := ⟨_, rfl⟩
    obtain ⟨b, hb⟩ : ∃ b : Nat, (-e).toNat = b := ⟨_, rfl⟩
    have hB : B = b + a := by omega
    rw [e1, ha, hb, hB, Nat.pow_zero, Nat.mul_one, Nat.pow_add, Nat.mul_div_mul_right _ _ (Nat.two_pow_pos a)]
  · have e1 : (-e).toNat = 0 := by omega
    have e2 : (e + B).toNat = e.toNat + B := by omega
    rw [e1, e2, Nat.pow_zero, Nat.div_one, Nat.pow_add, ← Nat.mul_assoc, Nat.mul_div_cancel _ (Nat.two_pow_pos B)]
theorem cut_same {m n : Nat} {e f : Int} (he : -1100 ≤ e) (hf : -1100 ≤ f) (h : m * 2 ^ (e + 1100).toNat = n * 2 ^ (f + 1100).toNat) : cutN m e = cutN n f := by
  rw [cut_val 1100 he, cut_val 1100 hf]
  have h' : m * 2 ^ (e + ((1100 : Nat) : Int)).toNat = n * 2 ^ (f + ((1100 : Nat) : Int)).toNat := h
  rw [h']
theorem cut_none (n : Nat) : Ieee.Toward.even.cut false n 0 = n := by
  unfold Ieee.Toward.cut
  simp [Nat.mod_one]
theorem read_dbl_norm {T kept : Nat} (hk1 : 4503599627370496 ≤ kept) (hk2 : kept < 9007199254740992) (hT1 : 1 ≤ T) (hT : T < 2040) :
    Ieee.double.read (Ieee.double.word false (min (T * 4503599627370496 + kept) 9218868437227405312)) = .number false kept (-1074 + (T : Int)) := by
  have hlt : T * 4503599627370496 + kept < 9218868437227405312 := by omega
  rw [Nat.min_eq_left (by omega)]
  unfold Ieee.Format.read Ieee.Format.word
  simp only [dbl_binade, dbl_inf, dbl_sign, dbl_least, Bool.false_eq_true, if_false]
  have e0 : (T * 4503599627370496 + kept) / 9223372036854775808 = 0 := by omega
  have e1 : ((T * 4503599627370496 + kept) / 9223372036854775808 % 2 == 1) = false := by rw [e0]; rfl
  have e2 : (T * 4503599627370496 + kept) % 9223372036854775808 = T * 4503599627370496 + kept := by omega
  rw [e1, e2, if_neg (by omega), if_pos hlt]
  have e3 : 4503599627370496 + (T * 4503599627370496 + kept) % 4503599627370496 = kept := by omega
  have e4 : (T * 4503599627370496 + kept) / 4503599627370496 - 1 = T := by omega
  rw [e3, e4]
theorem read_dbl_zero : Ieee.double.read (Ieee.double.word false 0) = .number false 0 (-1074) := by rfl
/-- what a double has, it writes exactly -/
theorem write_dbl {mag : Nat} {place : Int} (hm : mag < 9007199254740992) (h1 : -200 ≤ place) (h2 : place ≤ 100) :
    ∃ m e, Ieee.double.read (Ieee.double.write (.number false mag place)) = .number false m e ∧ -1100 ≤ e ∧ m * 2 ^ (e + 1100).toNat = mag * 2 ^ (place + 1100).toNat := by
  show ∃ m e, Ieee.double.read (Ieee.double.nearest false mag place) = .number false m e ∧ _
  unfold Ieee.Format.nearest
  split
  · rename_i h0
    subst h0
    exact ⟨0, -1074, read_dbl_zero, by omega, by simp⟩
  · rename_i h0
    simp only [dbl_least, dbl_binade, dbl_inf]
    have hfb : (Ieee.double.fractionBits : Int) = 52 := rfl
    rw [hfb]
    have hL1 : 2 ^ mag.log2 ≤ mag := Nat.log2_self_le h0
    have hL2 : mag < 2 ^ (mag.log2 + 1) := Nat.lt_log2_self
    have hL3 : mag.log2 < 53 := (Nat.log2_lt h0).2 hm
    obtain ⟨Lg, hL⟩ : ∃ Lg, Lg = mag.log2 := ⟨_, rfl⟩
    rw [← hL] at hL1 hL2 hL3 ⊢
    obtain ⟨last, hlast⟩ : ∃ last : Int, last = max (place + (Lg : Int) - 52) (-1074) := ⟨_, rfl⟩
    rw [← hlast]
    have hl : last = place + (Lg : Int) - 52 := by omega
    have e1 : (last - place).toNat = 0 := by omega
    have e2 : (place - last).toNat = 52 - Lg := by omega
    rw [e1, e2, cut_none, Nat.shiftLeft_eq]
    have hp : 2 ^ Lg * 2 ^ (52 - Lg) = 4503599627370496 := by rw [← Nat.pow_add, show Lg + (52 - Lg) = 52 by omega]
    have hk1 : 4503599627370496 ≤ mag * 2 ^ (52 - Lg) := by rw [← hp]; exact Nat.mul_le_mul_right _ hL1
    have hk2 : mag * 2 ^ (52 - Lg) < 9007199254740992 := by
      have : mag * 2 ^ (52 - Lg) < 2 ^ (Lg + 1) * 2 ^ (52 - Lg) := (Nat.mul_lt_mul_right (Nat.two_pow_pos _)).2 hL2
      have e : 2 ^ (Lg + 1) * 2 ^ (52 - Lg) = 9007199254740992 := by rw [← Nat.pow_add, show Lg + 1 + (52 - Lg) = 53 by omega]
      omega
    obtain ⟨T, hT⟩ : ∃ T : Nat, T = (last - -1074).toNat := ⟨_, rfl⟩
    rw [← hT]
    refine ⟨_, _, read_dbl_norm hk1 hk2 (by omega) (by omega), by omega, ?_⟩
    have e3 : (-1074 + (T : Int) + 1100).toNat + (52 - Lg) = (place + 1100).toNat := by omega
    rw [Nat.mul_assoc, Nat.mul_comm (2 ^ (52 - Lg)), ← Nat.pow_add, e3]
theorem dbl_fin {w : Nat} {s : Bool} {m : Nat} {e : Int} (h : Ieee.double.read w = .number s m e) : (FloatKind.f64.decode w).isNaN = false ∧ canon .f64 w = w := by
  have h1 : (FloatKind.f64.decode w).isNaN = false := by
    show (Ieee.double.read w).isNaN = false
    rw [h]; rfl
  exact ⟨h1, canon_num' h1⟩
/-- the step of a level, both ways -/
theorem floor_same {p m : Nat} {e : Int} (h : Ieee.single.read p = .number false m e) (he : e ≤ 0) :
    fToI .f32 p = ((cutN m e : Nat) : Int) ∧ ((FloatKind.f32.decode p).toInt .zero).isSome = true ∧ cutN m e < 16777216 ∧
    (FloatKind.f64.decode (fToF .f32 .f64 p)).isNaN = false ∧ fToI .f64 (flF (fToF .f32 .f64 p)) = ((cutN m e : Nat) : Int) ∧ ((FloatKind.f64.decode (flF (fToF .f32 .f64 p))).toInt .zero).isSome = true := by
  obtain ⟨hp1, hp2, hp3⟩ := read_place h
  have hF : cutN m e < 16777216 := by
    unfold cutN
    have : e.toNat = 0 := by omega
    rw [this, Nat.shiftLeft_zero]
    exact Nat.lt_of_le_of_lt (Nat.div_le_self _ _) hp3
  have d1 : FloatKind.f32.decode p = .number false m e := h
  obtain ⟨m1, e1, r1, g1, v1⟩ := write_dbl (mag := m) (place := e) (by omega) (by omega) (by omega)
  obtain ⟨n1, c1⟩ := dbl_fin r1
  have hw : fToF .f32 .f64 p = Ieee.double.write (.number false m e) := by
    unfold fToF
    rw [if_neg (by decide), d1]
    exact c1
  have d2 : FloatKind.f64.decode (Ieee.double.write (.number false m e)) = .number false m1 e1 := r1
  have hc : cutN m1 e1 = cutN m e := cut_same g1 (by omega) v1
  obtain ⟨m2, e2, r2, g2, v2⟩ := write_dbl (mag := cutN m e) (place := 0) (by omega) (by omega) (by omega)
  obtain ⟨n2, c2⟩ := dbl_fin r2
  have hfl : flF (fToF .f32 .f64 p) = Ieee.double.write (.number false (cutN m e) 0) := by
    unfold flF
    rw [hw, d2, integral_pos (.inr rfl), hc]
    exact c2
  have d3 : FloatKind.f64.decode (Ieee.double.write (.number false (cutN m e) 0)) = .number false m2 e2 := r2
  have hc2 : cutN m2 e2 = cutN (cutN m e) 0 := cut_same g2 (by omega) v2
  have hc3 : cutN (cutN m e) 0 = cutN m e := by simp [cutN]
  refine ⟨?_, ?_, hF, by rw [hw]; exact n1, ?_, ?_⟩
  · unfold fToI; rw [d1, toInt_pos]; rfl
  · rw [d1, toInt_pos]; rfl
  · unfold fToI; rw [hfl, d3, toInt_pos, hc2, hc3]; rfl
  · rw [hfl, d3, toInt_pos]; rfl
end Go.Fw
