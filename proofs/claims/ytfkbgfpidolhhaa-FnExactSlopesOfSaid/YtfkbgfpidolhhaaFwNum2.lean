import Derived.Test.YtfkbgfpidolhhaaFwArgS
namespace Go.Fw
open Go
/-! finite floats as whole numbers of the least unit -/
theorem single_least : Ieee.single.leastPlace = -149 := by decide
theorem single_binade : Ieee.single.binade = 8388608 := by decide
theorem single_inf : Ieee.single.infRung = 2139095040 := by decide
theorem single_sign : Ieee.single.signWeight = 2147483648 := by decide
/-- what a number's place may be -/
theorem read_place {x : Nat} {s : Bool} {m : Nat} {e : Int} (h : Ieee.single.read x = .number s m e) : -149 ≤ e ∧ e ≤ 104 ∧ m < 16777216 := by
  unfold Ieee.Format.read at h
  simp only [single_binade, single_inf, single_least] at h
  split at h
  · cases h; omega
  · split at h
    · cases h
      have : x % Ieee.single.signWeight % 8388608 < 8388608 := Nat.mod_lt _ (by decide)
      omega
    · split at h <;> cases h
def vOf (s : Bool) (m : Nat) (e : Int) : Int := Ieee.signed s m (e + 149).toNat
theorem signed_mul (s : Bool) (m a b : Nat) : Ieee.signed s m (a + b) = Ieee.signed s m a * (2 ^ b : Nat) := by
  unfold Ieee.signed
  simp only [Nat.shiftLeft_eq, Nat.pow_add]
  cases s <;> simp [Int.natCast_mul, Int.mul_assoc, Int.neg_mul]
theorem compare_scale {a b : Int} {c : Nat} (hc : 0 < c) : compare (a * c) (b * c) = compare a b := by
  have hc' : (0 : Int) < c := by omega
  rcases Int.lt_trichotomy a b with h | h | h
  · rw [Int.compare_eq_lt.2 h, Int.compare_eq_lt.2 (Int.mul_lt_mul_of_pos_right h hc')]
  · subst h; rw [Int.compare_eq_eq.2 rfl, Int.compare_eq_eq.2 rfl]
  · rw [Int.compare_eq_gt.2 h, Int.compare_eq_gt.2 (Int.mul_lt_mul_of_pos_right h hc')]
theorem order_v {x y : Nat} {s t : Bool} {m n : Nat} {i j : Int} (hx : Ieee.single.read x = .number s m i) (hy : Ieee.single.read y = .number t n j) : Ieee.single.order x y = some (compare (vOf s m i) (vOf t n j)) := by
  obtain ⟨a1, _, _⟩ := read_place hx
  obtain ⟨b1, _, _⟩ := read_place hy
  unfold Ieee.Format.order
  rw [hx, hy]
  simp only [Ieee.Datum.order]
  obtain ⟨c, hc⟩ : ∃ c : Nat, (c : Int) = min i j + 149 := ⟨(min i j + 149).toNat, by omega⟩
  have e1 : (i + 149).toNat = (i - min i j).toNat + c := by omega
  have e2 : (j + 149).toNat = (j - min i j).toNat + c := by omega
  unfold vOf
  rw [e1, e2, signed_mul, signed_mul, compare_scale (Nat.two_pow_pos c)]
theorem read_word (neg : Bool) {r : Nat} (h : r < Ieee.single.infRung) : ∃ m e, Ieee.single.read (Ieee.single.word neg r) = .number neg m e := by
  rw [single_inf] at h
  unfold Ieee.Format.read Ieee.Format.word
  simp only [single_binade, single_inf, single_sign]
  cases neg with
  | true =>
    have e1 : ((2147483648 + r) / 2147483648 % 2 == 1) = true := by
      have : (2147483648 + r) / 2147483648 = 1 := by omega
      rw [this]; rfl
    have e2 : (2147483648 + r) % 2147483648 = r := by omega
    simp only [if_true, e1, e2]
    split
    · exact ⟨_, _, rfl⟩
    · exact ⟨_, _, rfl⟩
  | false =>
    have e1 : (r / 2147483648 % 2 == 1) = false := by
      have : r / 2147483648 = 0 := by omega
      rw [this]; rfl
    have e2 : r % 2147483648 = r := by omega
    simp only [Bool.false_eq_true, if_false, e1, e2]
    split
    · exact ⟨_, _, rfl⟩
    · exact ⟨_, _, rfl⟩
theorem cut_bound {neg : Bool} {n d Q : Nat} (h : n ≤ Q * 2 ^ d) : Ieee.Toward.cut .even neg n d ≤ Q := by
  unfold Ieee.Toward.cut
  simp only [Nat.shiftLeft_eq, Nat.one_mul]
  by_cases hd : d ≤ n.log2 + 2
  · rw [Nat.min_eq_left hd]
    have h2 : 0 < 2 ^ d := Nat.two_pow_pos d
    obtain ⟨g, hg⟩ : ∃ g, g = 2 ^ d := ⟨_, rfl⟩
    rw [← hg] at h h2 ⊢
    have h3 : n / g ≤ Q := Nat.div_le_of_le_mul (by rw [Nat.mul_comm]; exact h)
    rcases Nat.lt_or_ge (n / g) Q with h4 | h4
    · have : ∀ b : Bool, b.toNat ≤ 1 := fun b => by cases b <;> decide
      exact Nat.le_trans (Nat.add_le_add_left (this _) _) h4
    · have h5 : n / g = Q := by omega
      have h6 : n % g = 0 := by
        have := Nat.div_add_mod n g
        rw [h5, Nat.mul_comm] at this
        omega
      rw [h6]
      have h7 : (decide (g < 2 * 0) || (g == 2 * 0 && n / g % 2 == 1)) = false := by
        have : (g == 2 * 0) = false := by simp; omega
        rw [this]; simp
      simp only [h7, Bool.toNat_false]
      omega
  · rw [Nat.min_eq_right (by omega)]
    have h1 : n < 2 ^ (n.log2 + 1) := Nat.lt_log2_self
    obtain ⟨g, hg⟩ : ∃ g, g = 2 ^ (n.log2 + 2) := ⟨_, rfl⟩
    have h2 : 2 * n < g := by rw [hg, Nat.pow_succ]; omega
    rw [← hg]
    have h3 : n / g = 0 := Nat.div_eq_of_lt (by omega)
    have h4 : n % g = n := Nat.mod_eq_of_lt (by omega)
    rw [h3, h4]
    have h7 : (decide (g < 2 * n) || (g == 2 * n && 0 % 2 == 1)) = false := by
      have : (g == 2 * n) = false := by simp; omega
      rw [this]; simp; omega
    simp only [h7, Bool.toNat_false]
    omega
/-- a number within the range is written as one -/
theorem write_fin {neg : Bool} {mag : Nat} {base : Int} (h1 : -149 ≤ base) (h2 : base ≤ 104) (hm : mag * 2 ^ (base + 149).toNat ≤ 16777215 * 2 ^ 253) : ∃ m e, Ieee.single.read (Ieee.single.write (.number neg mag base)) = .number neg m e := by
  show ∃ m e, Ieee.single.read (Ieee.single.nearest neg mag base) = .number neg m e
  unfold Ieee.Format.nearest
  split
  · exact read_word neg (by rw [single_inf]; decide)
  · rename_i h0
    simp only [single_least, single_binade]
    have hfb : (Ieee.single.fractionBits : Int) = 23 := rfl
    rw [hfb]
    refine read_word neg ?_
    have hL1 : 2 ^ mag.log2 ≤ mag := Nat.log2_self_le h0
    have hL2 : mag < 2 ^ (mag.log2 + 1) := Nat.lt_log2_self
    obtain ⟨L, hL⟩ : ∃ L, L = mag.log2 := ⟨_, rfl⟩
    rw [← hL] at hL1 hL2 ⊢
    obtain ⟨b, hb⟩ : ∃ b : Nat, (b : Int) = base + 149 := ⟨(base + 149).toNat, by omega⟩
    have hb' : (base + 149).toNat = b := by omega
    rw [hb'] at hm
    have hLb : L + b < 277 := by
      apply Nat.lt_of_not_le
      intro hge
      obtain ⟨E, hE⟩ : ∃ E, E = 24 + 253 := ⟨_, rfl⟩
      have a1 : 2 ^ E ≤ 2 ^ (L + b) := Nat.pow_le_pow_right (by decide) (by omega)
      have a2 : 2 ^ (L + b) ≤ mag * 2 ^ b := by rw [Nat.pow_add]; exact Nat.mul_le_mul_right _ hL1
      have a3 := Nat.le_trans a1 (Nat.le_trans a2 hm)
      rw [hE, Nat.pow_add 2 24 253] at a3
      exact absurd (Nat.le_of_mul_le_mul_right a3 (Nat.two_pow_pos 253)) (by decide)
    obtain ⟨last, hlast⟩ : ∃ last : Int, last = max (base + (L : Int) - 23) (-149) := ⟨_, rfl⟩
    rw [← hlast]
    have hl1 : last ≤ 104 := by omega
    have hl2 : -149 ≤ last := by omega
    have hl3 : base + L - 23 ≤ last := by omega
    -- the kept digits
    have hk24 : Ieee.Toward.cut .even neg (mag <<< (base - last).toNat) (last - base).toNat ≤ 16777216 := by
      refine cut_bound ?_
      rw [Nat.shiftLeft_eq]
      by_cases hlb : base ≤ last
      · have e1 : (base - last).toNat = 0 := by omega
        rw [e1, Nat.pow_zero, Nat.mul_one]
        have e2 : L + 1 ≤ 24 + (last - base).toNat := by omega
        have e3 : 2 ^ (L + 1) ≤ 2 ^ (24 + (last - base).toNat) := Nat.pow_le_pow_right (by decide) e2
        rw [Nat.pow_add 2 24] at e3
        exact Nat.le_of_lt (Nat.lt_of_lt_of_le hL2 e3)
      · have e1 : (last - base).toNat = 0 := by omega
        rw [e1, Nat.pow_zero, Nat.mul_one]
        have e2 : L + 1 + (base - last).toNat ≤ 24 := by omega
        have e3 : 2 ^ (L + 1 + (base - last).toNat) ≤ 2 ^ 24 := Nat.pow_le_pow_right (by decide) e2
        rw [Nat.pow_add 2 (L + 1)] at e3
        have e4 : mag * 2 ^ (base - last).toNat ≤ 2 ^ (L + 1) * 2 ^ (base - last).toNat := Nat.mul_le_mul_right _ (Nat.le_of_lt hL2)
        exact Nat.le_trans e4 e3
    rw [single_inf]
    obtain ⟨kept, hkept⟩ : ∃ kept, kept = Ieee.Toward.cut .even neg (mag <<< (base - last).toNat) (last - base).toNat := ⟨_, rfl⟩
    rw [← hkept] at hk24 ⊢
    by_cases hl : last = 104
    · have hk : kept ≤ 16777215 := by
        rw [hkept]
        refine cut_bound ?_
        have e1 : (base - last).toNat = 0 := by omega
        rw [e1, Nat.shiftLeft_zero]
        have e2 : 253 = (last - base).toNat + b := by omega
        have hm2 := hm
        rw [e2, Nat.pow_add, ← Nat.mul_assoc] at hm2
        exact Nat.le_of_mul_le_mul_right hm2 (Nat.two_pow_pos b)
      clear hm
      have : (last - -149).toNat = 253 := by omega
      rw [this]
      exact Nat.lt_of_le_of_lt (Nat.min_le_left _ _) (by omega)
    · clear hm
      have : (last - -149).toNat ≤ 252 := by omega
      have h3 : (last - -149).toNat * 8388608 ≤ 252 * 8388608 := Nat.mul_le_mul_right _ this
      exact Nat.lt_of_le_of_lt (Nat.min_le_left _ _) (by omega)
theorem v_zero : vOf false 0 Ieee.single.leastPlace = 0 := by decide
theorem lss_v {x y : Nat} {s t : Bool} {m n : Nat} {i j : Int} (hx : Ieee.single.read x = .number s m i) (hy : Ieee.single.read y = .number t n j) : cmF .lss .f32 x y = decide (vOf s m i < vOf t n j) := by
  have h : FloatKind.f32.format.order x y = some (compare (vOf s m i) (vOf t n j)) := order_v hx hy
  unfold cmF
  simp only [h]
  rcases Int.lt_trichotomy (vOf s m i) (vOf t n j) with g | g | g
  · rw [Int.compare_eq_lt.2 g]; simp [g]
  · rw [Int.compare_eq_eq.2 g, g]; simp
  · rw [Int.compare_eq_gt.2 g]; simp; omega
theorem gtr_v {x y : Nat} {s t : Bool} {m n : Nat} {i j : Int} (hx : Ieee.single.read x = .number s m i) (hy : Ieee.single.read y = .number t n j) : cmF .gtr .f32 x y = decide (vOf t n j < vOf s m i) := by
  have h : FloatKind.f32.format.order x y = some (compare (vOf s m i) (vOf t n j)) := order_v hx hy
  unfold cmF
  simp only [h]
  rcases Int.lt_trichotomy (vOf s m i) (vOf t n j) with g | g | g
  · rw [Int.compare_eq_lt.2 g]; simp; omega
  · rw [Int.compare_eq_eq.2 g, g]; simp
  · rw [Int.compare_eq_gt.2 g]; simp [g]
theorem eql_v {x y : Nat} {s t : Bool} {m n : Nat} {i j : Int} (hx : Ieee.single.read x = .number s m i) (hy : Ieee.single.read y = .number t n j) : cmF .eql .f32 x y = decide (vOf s m i = vOf t n j) := by
  have h : FloatKind.f32.format.order x y = some (compare (vOf s m i) (vOf t n j)) := order_v hx hy
  unfold cmF
  simp only [h]
  rcases Int.lt_trichotomy (vOf s m i) (vOf t n j) with g | g | g
  · rw [Int.compare_eq_lt.2 g]; simp; omega
  · rw [Int.compare_eq_eq.2 g, g]; simp
  · rw [Int.compare_eq_gt.2 g]; simp; omega
theorem canon_fin {w : Nat} {s : Bool} {m : Nat} {e : Int} (h : Ieee.single.read w = .number s m e) : canon .f32 w = w := canon_num' (by
  show (Ieee.single.read w).isNaN = false
  rw [h]; rfl)
theorem v_le {s : Bool} {m : Nat} {e : Int} {x : Nat} (h : Ieee.single.read x = .number s m e) : vOf s m e ≤ ((16777215 * 2 ^ 253 : Nat) : Int) := by
  obtain ⟨h1, h2, h3⟩ := read_place h
  unfold vOf Ieee.signed
  have h4 : m <<< (e + 149).toNat ≤ 16777215 * 2 ^ 253 := by
    rw [Nat.shiftLeft_eq]
    exact Nat.mul_le_mul (by omega) (Nat.pow_le_pow_right (by decide) (by omega))
  generalize 16777215 * 2 ^ 253 = B at h4 ⊢
  generalize m <<< (e + 149).toNat = q at h4 ⊢
  cases s <;> simp <;> omega
/-- a difference that is not negative lies between nothing and its first term -/
theorem sub_fin {x y : Nat} {s t : Bool} {m n : Nat} {i j : Int} (hx : Ieee.single.read x = .number s m i) (hy : Ieee.single.read y = .number t n j) (h0 : 0 ≤ vOf t n j) (hle : vOf t n j ≤ vOf s m i) : isNum (arF .sub .f32 x y) ∧ cmF .lss .f32 (arF .sub .f32 x y) 0 = false := by
  obtain ⟨a1, a2, _⟩ := read_place hx
  obtain ⟨b1, b2, _⟩ := read_place hy
  obtain ⟨base, hbase⟩ : ∃ base : Int, base = min i j := ⟨_, rfl⟩
  obtain ⟨c, hc⟩ : ∃ c : Nat, (c : Int) = base + 149 := ⟨(base + 149).toNat, by omega⟩
  have e1 : (i + 149).toNat = (i - base).toNat + c := by omega
  have e2 : (j + 149).toNat = (j - base).toNat + c := by omega
  have e3 : (base + 149).toNat = c := by omega
  obtain ⟨total, ht⟩ : ∃ total : Int, total = Ieee.signed s m (i - base).toNat + Ieee.signed (!t) n (j - base).toNat := ⟨_, rfl⟩
  have hneg : ∀ (b : Bool) (k q : Nat), Ieee.signed (!b) k q = - Ieee.signed b k q := fun b k q => by cases b <;> simp [Ieee.signed]
  have hv : total * (2 ^ c : Nat) = vOf s m i - vOf t n j := by
    unfold vOf
    rw [e1, e2, signed_mul, signed_mul, ht, hneg, ← Int.sub_mul]
    rfl
  have hB := v_le hx
  have hp : (0 : Int) < (2 ^ c : Nat) := by exact_mod_cast Nat.two_pow_pos c
  have htot : 0 ≤ total := by
    apply Int.not_lt.1
    intro hlt
    have := Int.mul_neg_of_neg_of_pos hlt hp
    omega
  have hsub : FloatKind.f32.format.sub x y = some (Ieee.single.write (.number (if total = 0 then s && !t else decide (total < 0)) total.natAbs base)) := by
    show Ieee.single.sub x y = _
    unfold Ieee.Format.sub
    rw [hx, hy]
    simp only [Ieee.Datum.opposite, Ieee.Datum.sum, Option.map_some]
    rw [← hbase, ← ht]
  unfold arF
  simp only [hsub]
  by_cases hz : total = 0
  · rw [hz, if_pos rfl]
    simp only [Int.natAbs_zero, write_zero]
    have := zl_word (s && !t)
    exact ⟨zl_num this, zl_lss this⟩
  · rw [if_neg hz]
    have hd : decide (total < 0) = false := by simp; omega
    rw [hd]
    have hmag : total.natAbs * 2 ^ (base + 149).toNat ≤ 16777215 * 2 ^ 253 := by
      rw [e3]
      have : ((total.natAbs * 2 ^ c : Nat) : Int) = total * (2 ^ c : Nat) := by
        rw [Int.natCast_mul, Int.natAbs_of_nonneg htot]
      generalize 16777215 * 2 ^ 253 = B at hB ⊢
      omega
    obtain ⟨m', e', hr⟩ := write_fin (neg := false) (mag := total.natAbs) (base := base) (by omega) (by omega) hmag
    rw [canon_fin hr]
    refine ⟨⟨_, _, _, hr⟩, ?_⟩
    rw [lss_v hr read_zero, v_zero]
    have : 0 ≤ vOf false m' e' := by
      unfold vOf Ieee.signed
      simp only [Bool.false_eq_true, if_false]
      exact Int.natCast_nonneg _
    simp; omega
end Go.Fw
