/- A part of the framework of these proofs. -/
import Derived.Test.YtfoflddjcijaeaaFwNum4
namespace Go.Fw
open Go
/-! the quotient of a level, and a half more -/
theorem read_parts5 {x : Nat} {s : Bool} {m : Nat} {i : Int} (h : Ieee.single.read x = .number s m i) : ∃ E : Nat, (i + 149).toNat = E ∧ x % 2147483648 = E * 8388608 + m := by
  unfold Ieee.Format.read at h
  simp only [single_binade, single_inf, single_least, single_sign] at h
  split at h
  · rename_i hlt
    injection h with h1 h2 h3
    subst h1 h2 h3
    exact ⟨0, rfl, by omega⟩
  · split at h
    · rename_i h1 h2
      injection h with g1 g2 g3
      have hmod := Nat.mod_lt (x % 2147483648) (show 0 < 8388608 by decide)
      have hdiv := Nat.div_add_mod (x % 2147483648) 8388608
      exact ⟨x % 2147483648 / 8388608 - 1, by omega, by omega⟩
    · split at h <;> cases h
theorem vOf_mul5 (s : Bool) (m : Nat) (i : Int) : vOf s m i = if s = true then -((m * 2 ^ (i + 149).toNat : Nat) : Int) else ((m * 2 ^ (i + 149).toNat : Nat) : Int) := by
  unfold vOf Ieee.signed
  rw [Nat.shiftLeft_eq]
theorem half_read : Ieee.single.read 1056964608 = .number false 8388608 (-24) := by rfl
theorem rung_low {A k : Nat} (h : A ≤ 133) (h2 : k ≤ 16777216) : A * 8388608 + k ≤ 1132462080 := by omega
theorem nearest_low {T c : Nat} {base : Int} (hT : T ≠ 0) (hc : (c : Int) = base + 149) (hlt : T * 2 ^ c < 2 ^ 157) : ∃ r, Ieee.single.write (.number false T base) = Ieee.single.word false r ∧ r ≤ 1132462080 := by
  show ∃ r, Ieee.single.nearest false T base = _ ∧ _
  unfold Ieee.Format.nearest
  rw [if_neg hT]
  simp only [single_least, single_binade]
  have hfb : (Ieee.single.fractionBits : Int) = 23 := rfl
  rw [hfb, single_inf]
  have hL1 : 2 ^ T.log2 ≤ T := Nat.log2_self_le hT
  have hL2 : T < 2 ^ (T.log2 + 1) := Nat.lt_log2_self
  obtain ⟨Lg, hL⟩ : ∃ Lg, Lg = T.log2 := ⟨_, rfl⟩
  rw [← hL] at hL1 hL2 ⊢
  have hLc : Lg + c < 157 := by
    apply Nat.lt_of_not_le
    intro hge
    have a1 : 2 ^ 157 ≤ 2 ^ (Lg + c) := Nat.pow_le_pow_right (by decide) hge
    have a2 : 2 ^ (Lg + c) ≤ T * 2 ^ c := by rw [Nat.pow_add]; exact Nat.mul_le_mul_right _ hL1
    exact absurd (Nat.lt_of_le_of_lt (Nat.le_trans a1 a2) hlt) (Nat.lt_irrefl _)
  clear hlt
  obtain ⟨last, hlast⟩ : ∃ last : Int, last = max (base + (Lg : Int) - 23) (-149) := ⟨_, rfl⟩
  rw [← hlast]
  have hl1 : last ≤ -16 := by omega
  have hl2 : -149 ≤ last := by omega
  have hl3 : base + Lg - 23 ≤ last := by omega
  have hk24 : Ieee.Toward.cut .even false (T <<< (base - last).toNat) (last - base).toNat ≤ 16777216 := by
    refine cut_bound ?_
    rw [Nat.shiftLeft_eq]
    by_cases hlb : base ≤ last
    · have e1 : (base - last).toNat = 0 := by omega
      rw [e1, Nat.pow_zero, Nat.mul_one]
      have e2 : Lg + 1 ≤ 24 + (last - base).toNat := by omega
      have e3 : 2 ^ (Lg + 1) ≤ 2 ^ (24 + (last - base).toNat) := Nat.pow_le_pow_right (by decide) e2
      rw [Nat.pow_add 2 24] at e3
      exact Nat.le_of_lt (Nat.lt_of_lt_of_le hL2 e3)
    · have e1 : (last - base).toNat = 0 := by omega
      rw [e1, Nat.pow_zero, Nat.mul_one]
      have e2 : Lg + 1 + (base - last).toNat ≤ 24 := by omega
      have e3 : 2 ^ (Lg + 1 + (base - last).toNat) ≤ 2 ^ 24 := Nat.pow_le_pow_right (by decide) e2
      rw [Nat.pow_add 2 (Lg + 1)] at e3
      have e4 : T * 2 ^ (base - last).toNat ≤ 2 ^ (Lg + 1) * 2 ^ (base - last).toNat := Nat.mul_le_mul_right _ (Nat.le_of_lt hL2)
      exact Nat.le_trans e4 e3
  refine ⟨_, rfl, ?_⟩
  generalize Ieee.Toward.cut .even false (T <<< (base - last).toNat) (last - base).toNat = kept at hk24 ⊢
  have : (last - -149).toNat ≤ 133 := by omega
  exact Nat.le_trans (Nat.min_le_left _ _) (rung_low this hk24)
theorem add_half {d : Nat} {s : Bool} {md : Nat} {ed : Int} (h : Ieee.single.read d = .number s md ed) (hs : s = false ∨ md = 0) (hv : vOf s md ed < ((255 * 2 ^ 149 : Nat) : Int)) :
    ∃ m e, Ieee.single.read (arF .add .f32 d 1056964608) = .number false m e ∧ e ≤ 0 := by
  obtain ⟨p1, p2, p3⟩ := read_place h
  obtain ⟨c, hc⟩ : ∃ c : Nat, (c : Int) = min ed (-24) + 149 := ⟨(min ed (-24) + 149).toNat, by omega⟩
  obtain ⟨a, ha⟩ : ∃ a : Nat, a = (ed - min ed (-24)).toNat := ⟨_, rfl⟩
  obtain ⟨b, hb⟩ : ∃ b : Nat, b = (-24 - min ed (-24)).toNat := ⟨_, rfl⟩
  have hac : a + c = (ed + 149).toNat := by omega
  have hbc : b + c = 125 := by omega
  have hsig : Ieee.signed s md a = ((md * 2 ^ a : Nat) : Int) := by
    unfold Ieee.signed
    rw [Nat.shiftLeft_eq]
    rcases hs with rfl | rfl
    · rfl
    · simp
  have hsig2 : Ieee.signed false 8388608 b = ((8388608 * 2 ^ b : Nat) : Int) := by
    unfold Ieee.signed
    rw [Nat.shiftLeft_eq]
    rfl
  have hvm : md * 2 ^ (a + c) < 255 * 2 ^ 149 := by
    rw [hac]
    rw [vOf_mul5] at hv
    generalize 255 * 2 ^ 149 = B at hv ⊢
    generalize hq : md * 2 ^ (ed + 149).toNat = q at hv ⊢
    rcases hs with rfl | rfl
    · simp only [Bool.false_eq_true, if_false] at hv
      exact Int.ofNat_lt.1 hv
    · rw [Nat.zero_mul] at hq
      subst hq
      split at hv
      · simpa using hv
      · exact Int.ofNat_lt.1 hv
  have hT0 : md * 2 ^ a + 8388608 * 2 ^ b ≠ 0 := by
    have := Nat.two_pow_pos b
    omega
  have hTlt : (md * 2 ^ a + 8388608 * 2 ^ b) * 2 ^ c < 2 ^ 157 := by
    rw [Nat.add_mul, Nat.mul_assoc, Nat.mul_assoc, ← Nat.pow_add, ← Nat.pow_add, hbc]
    have e1 : (255 * 2 ^ 149 + 8388608 * 2 ^ 125 : Nat) < 2 ^ 157 := by decide +kernel
    omega
  have hsum : (Ieee.Datum.number s md ed).sum (.number false 8388608 (-24)) = some (.number false (md * 2 ^ a + 8388608 * 2 ^ b) (min ed (-24))) := by
    simp only [Ieee.Datum.sum]
    rw [← ha, ← hb, hsig, hsig2]
    have e2 : ((md * 2 ^ a : Nat) : Int) + ((8388608 * 2 ^ b : Nat) : Int) = ((md * 2 ^ a + 8388608 * 2 ^ b : Nat) : Int) := by rw [← Int.natCast_add]
    rw [e2]
    generalize md * 2 ^ a + 8388608 * 2 ^ b = T at hT0 ⊢
    have e3 : ¬ ((T : Int) = 0) := by omega
    have e4 : decide ((T : Int) < 0) = false := by simp
    rw [if_neg e3, e4, Int.natAbs_natCast]
  obtain ⟨r, hr, hr2⟩ := nearest_low hT0 hc hTlt
  have hadd : FloatKind.f32.format.add d 1056964608 = some (Ieee.single.word false r) := by
    show Ieee.single.add d 1056964608 = _
    unfold Ieee.Format.add
    rw [h, half_read, hsum]
    show some (Ieee.single.write _) = _
    rw [hr]
  obtain ⟨m, e, hm⟩ := read_word false (r := r) (by rw [single_inf]; omega)
  have har : arF .add .f32 d 1056964608 = Ieee.single.word false r := by
    unfold arF
    simp only [hadd]
    exact canon_fin hm
  refine ⟨m, e, by rw [har]; exact hm, ?_⟩
  obtain ⟨E, g1, g2⟩ := read_parts5 hm
  obtain ⟨q1, _, _⟩ := read_place hm
  have hw : Ieee.single.word false r = r := rfl
  rw [hw] at g2
  omega
theorem nearest_word (neg : Bool) (mag : Nat) (place : Int) : ∃ r, Ieee.single.write (.number neg mag place) = Ieee.single.word neg r ∧ r ≤ Ieee.single.infRung := by
  show ∃ r, Ieee.single.nearest neg mag place = _ ∧ _
  unfold Ieee.Format.nearest
  split
  · exact ⟨0, rfl, Nat.zero_le _⟩
  · exact ⟨_, rfl, Nat.min_le_right _ _⟩
theorem read_inf : Ieee.single.read (Ieee.single.word false Ieee.single.infRung) = .infinity false := by rfl
theorem canon_inf : canon .f32 (Ieee.single.word false Ieee.single.infRung) = Ieee.single.word false Ieee.single.infRung := by rfl
theorem quo_cases {x q : Nat} {s : Bool} {m n : Nat} {i j : Int} (hx : Ieee.single.read x = .number s m i) (hs : s = false ∨ m = 0) (hq : Ieee.single.read q = .number false n j) (hn : n ≠ 0) :
    (∃ s' md ed, Ieee.single.read (arF .quo .f32 x q) = .number s' md ed ∧ (s' = false ∨ md = 0)) ∨ Ieee.single.read (arF .quo .f32 x q) = .infinity false := by
  obtain ⟨M, P, hM, hdiv⟩ : ∃ (M : Nat) (P : Int), (m = 0 → M = 0) ∧ FloatKind.f32.format.div x q = some (Ieee.single.write (.number s M P)) := by
    refine ⟨2 * ((m <<< (25 + n.log2 - m.log2)) / n) + ((m <<< (25 + n.log2 - m.log2)) % n != 0).toNat, i - j - (25 + n.log2 - m.log2 : Nat) - 1, ?_, ?_⟩
    · rintro rfl
      simp
    · show Ieee.single.div x q = _
      unfold Ieee.Format.div
      rw [hx, hq]
      have hfb : Ieee.single.fractionBits + 2 = 25 := rfl
      simp only [Ieee.Datum.quotient, hfb]
      rw [if_neg hn, Bool.xor_false]
      rfl
  rcases hs with rfl | hm0
  · obtain ⟨r, hr, hr2⟩ := nearest_word false M P
    have har : arF .quo .f32 x q = canon .f32 (Ieee.single.word false r) := by
      unfold arF
      simp only [hdiv, hr]
    rw [har]
    rcases Nat.lt_or_ge r Ieee.single.infRung with g | g
    · obtain ⟨m', e', h'⟩ := read_word false g
      left
      exact ⟨false, m', e', by rw [canon_fin h']; exact h', .inl rfl⟩
    · have : r = Ieee.single.infRung := Nat.le_antisymm hr2 g
      subst this
      right
      rw [canon_inf]; exact read_inf
  · left
    have hM0 := hM hm0
    subst hM0
    have hw := write_zero s P
    have har : arF .quo .f32 x q = canon .f32 (if s then 2147483648 else 0) := by
      unfold arF
      simp only [hdiv, hw]
    obtain ⟨s', e', h'⟩ := zl_iff.1 (zl_word s)
    exact ⟨s', 0, e', by rw [har]; exact h', .inr rfl⟩
theorem geq_num {x y : Nat} {s t : Bool} {m n : Nat} {i j : Int} (hx : Ieee.single.read x = .number s m i) (hy : Ieee.single.read y = .number t n j) (h : cmF .geq .f32 x y = false) : vOf s m i < vOf t n j := by
  have ho : FloatKind.f32.format.order x y = some (compare (vOf s m i) (vOf t n j)) := order_v hx hy
  unfold cmF at h
  simp only [ho] at h
  rcases Int.lt_trichotomy (vOf s m i) (vOf t n j) with g | g | g
  · exact g
  · rw [Int.compare_eq_eq.2 g] at h; simp at h
  · rw [Int.compare_eq_gt.2 g] at h; simp at h
theorem geq_inf {x y : Nat} {t : Bool} {n : Nat} {j : Int} (hx : Ieee.single.read x = .infinity false) (hy : Ieee.single.read y = .number t n j) : cmF .geq .f32 x y = true := by
  have ho : FloatKind.f32.format.order x y = some .gt := by
    show Ieee.single.order x y = _
    unfold Ieee.Format.order
    rw [hx, hy]; rfl
  unfold cmF
  simp [ho]
theorem leq_pos {q : Nat} {s : Bool} {n : Nat} {j : Int} (hq : Ieee.single.read q = .number s n j) (h : cmF .leq .f32 q 0 = false) : s = false ∧ n ≠ 0 := by
  have ho : FloatKind.f32.format.order q 0 = some (compare (vOf s n j) (vOf false 0 Ieee.single.leastPlace)) := order_v hq read_zero
  rw [v_zero] at ho
  unfold cmF at h
  simp only [ho] at h
  have hv : 0 < vOf s n j := by
    rcases Int.lt_trichotomy (vOf s n j) 0 with g | g | g
    · rw [Int.compare_eq_lt.2 g] at h; simp at h
    · rw [Int.compare_eq_eq.2 g] at h; simp at h
    · exact g
  rw [vOf_mul5] at hv
  generalize hp : n * 2 ^ (j + 149).toNat = p at hv
  cases s with
  | true => simp at hv; omega
  | false =>
    refine ⟨rfl, ?_⟩
    rintro rfl
    rw [Nat.zero_mul] at hp
    subst hp
    simp at hv
theorem lss_pos {x : Nat} {s : Bool} {m : Nat} {i : Int} (hx : Ieee.single.read x = .number s m i) (h : cmF .lss .f32 x 0 = false) : s = false ∨ m = 0 := by
  have h1 := lss_v hx read_zero
  rw [h, v_zero] at h1
  have hv : ¬ vOf s m i < 0 := by simpa using h1.symm
  rw [vOf_mul5] at hv
  cases s with
  | false => exact .inl rfl
  | true =>
    right
    simp only [if_true] at hv
    have h2 : m * 2 ^ (i + 149).toNat = 0 := by
      generalize m * 2 ^ (i + 149).toNat = p at hv ⊢
      omega
    rcases Nat.mul_eq_zero.1 h2 with h | h
    · exact h
    · have := Nat.two_pow_pos (i + 149).toNat
      omega
def stepTop (a : Nat) : Bool :=
  match Ieee.single.read (iToF .f32 a) with
  | .number false n j => decide (n * 2 ^ (j + 149).toNat ≤ 255 * 2 ^ 149)
  | _ => false
theorem stepTop_all : ∀ a : Fin 256, stepTop a = true := by decide +kernel
theorem stepTop_read {a : Nat} (h : a < 256) : ∃ n j, Ieee.single.read (iToF .f32 a) = .number false n j ∧ vOf false n j ≤ ((255 * 2 ^ 149 : Nat) : Int) := by
  have := stepTop_all ⟨a, h⟩
  unfold stepTop at this
  simp only at this
  split at this
  · rename_i n j hr
    refine ⟨n, j, hr, ?_⟩
    rw [vOf_mul5]
    generalize 255 * 2 ^ 149 = B at this ⊢
    simp only [decide_eq_true_eq] at this
    simp only [Bool.false_eq_true, if_false]
    exact Int.ofNat_le.2 this
  · cases this
/-- what the step of a level needs -/
theorem step_ok {x q a : Nat} (hx : isNum x) (hx0 : cmF .lss .f32 x 0 = false) (hq : isNum q) (hq0 : cmF .leq .f32 q 0 = false) (ha : a < 256) (hg : cmF .geq .f32 (arF .quo .f32 x q) (iToF .f32 a) = false) :
    ∃ F : Nat, F < 16777216 ∧ fToI .f32 (arF .add .f32 (arF .quo .f32 x q) 1056964608) = F ∧ ((FloatKind.f32.decode (arF .add .f32 (arF .quo .f32 x q) 1056964608)).toInt .zero).isSome = true ∧
      (FloatKind.f64.decode (fToF .f32 .f64 (arF .add .f32 (arF .quo .f32 x q) 1056964608))).isNaN = false ∧ fToI .f64 (flF (fToF .f32 .f64 (arF .add .f32 (arF .quo .f32 x q) 1056964608))) = F ∧
      ((FloatKind.f64.decode (flF (fToF .f32 .f64 (arF .add .f32 (arF .quo .f32 x q) 1056964608)))).toInt .zero).isSome = true := by
  obtain ⟨s, m, i, hx⟩ := hx
  obtain ⟨t, n, j, hq⟩ := hq
  obtain ⟨rfl, hn⟩ := leq_pos hq hq0
  obtain ⟨n2, j2, ht, htv⟩ := stepTop_read ha
  rcases quo_cases hx (lss_pos hx hx0) hq hn with ⟨s', md, ed, hd, hs'⟩ | hinf
  · have hlt := geq_num hd ht hg
    obtain ⟨mp, ep, hp, hpe⟩ := add_half hd hs' (Int.lt_of_lt_of_le hlt htv)
    obtain ⟨f1, f2, f3, f4, f5, f6⟩ := floor_same hp hpe
    exact ⟨cutN mp ep, f3, f1, f2, f4, f5, f6⟩
  · rw [geq_inf hinf ht] at hg; cases hg
end Go.Fw
