/- Contracts of functions, by a walk each. -/
import Derived.Test.YtfoflddjcijaeaaPic8
namespace Go.Proofs.Ytfoflddjcijaeaa
open Go Go.Fw
section
variable {w0 : World} {m : MS} {K : AV → MS → Prop}
/-! a picture's contrast -/
theorem read_parts {x : Nat} {s : Bool} {m : Nat} {i : Int} (h : Ieee.single.read x = .number s m i) : ∃ E : Nat, (i + 149).toNat = E ∧ x % 2147483648 = E * 8388608 + m ∧ m < 16777216 ∧ (E = 0 ∨ 8388608 ≤ m) ∧ (s = true ↔ x / 2147483648 % 2 = 1) := by
  unfold Ieee.Format.read at h
  simp only [single_binade, single_inf, single_least, single_sign] at h
  split at h
  · rename_i hlt
    injection h with h1 h2 h3
    subst h1 h2 h3
    exact ⟨0, rfl, by omega, by omega, .inl rfl, by simp⟩
  · split at h
    · rename_i h1 h2
      injection h with g1 g2 g3
      have hmod := Nat.mod_lt (x % 2147483648) (show 0 < 8388608 by decide)
      have hdiv := Nat.div_add_mod (x % 2147483648) 8388608
      refine ⟨x % 2147483648 / 8388608 - 1, by omega, by omega, by omega, .inr (by omega), by subst g1; simp⟩
    · split at h <;> cases h
theorem scale_lt {m n E d : Nat} (h : m * 2 ^ E = n * 2 ^ (E + (d + 1))) (hm : m < 16777216) (hn : 8388608 ≤ n) : False := by
  have h1 : m * 2 ^ E = (n * 2 ^ (d + 1)) * 2 ^ E := by rw [h, Nat.pow_add, Nat.mul_comm (2 ^ E), Nat.mul_assoc]
  have h2 := Nat.eq_of_mul_eq_mul_right (Nat.two_pow_pos E) h1
  have h3 : n * 2 ≤ n * 2 ^ (d + 1) := Nat.mul_le_mul_left _ (by rw [Nat.pow_succ]; have := Nat.two_pow_pos d; omega)
  omega
theorem scale_unique {m n E F : Nat} (h : m * 2 ^ E = n * 2 ^ F) (hm : m < 16777216) (hn : n < 16777216) (h1 : E = 0 ∨ 8388608 ≤ m) (h2 : F = 0 ∨ 8388608 ≤ n) : E = F ∧ m = n := by
  rcases Nat.lt_trichotomy E F with g | g | g
  · obtain ⟨d, rfl⟩ : ∃ d, F = E + (d + 1) := ⟨F - E - 1, by omega⟩
    exact (scale_lt h hm (by omega)).elim
  · subst g
    exact ⟨rfl, Nat.eq_of_mul_eq_mul_right (Nat.two_pow_pos E) h⟩
  · obtain ⟨d, rfl⟩ : ∃ d, E = F + (d + 1) := ⟨E - F - 1, by omega⟩
    exact (scale_lt h.symm hn (by omega)).elim
theorem wf_lt {x : Nat} (h : WfF x) : x < 4294967296 := by
  obtain ⟨c, hc, rfl⟩ := h
  unfold canon
  split
  · decide
  · exact hc
theorem vOf_mul (s : Bool) (m : Nat) (i : Int) : vOf s m i = if s = true then -((m * 2 ^ (i + 149).toNat : Nat) : Int) else ((m * 2 ^ (i + 149).toNat : Nat) : Int) := by
  unfold vOf Ieee.signed
  rw [Nat.shiftLeft_eq]
theorem word_unique {x y : Nat} {v : Int} (hx : WfF x) (hy : WfF y) (h1 : Val x v) (h2 : Val y v) (h0 : v ≠ 0) : x = y := by
  have lx := wf_lt hx
  have ly := wf_lt hy
  obtain ⟨s, m, i, r1, rfl⟩ := h1
  obtain ⟨t, n, j, r2, e⟩ := h2
  obtain ⟨E, a1, a2, a3, a4, a5⟩ := read_parts r1
  obtain ⟨F, b1, b2, b3, b4, b5⟩ := read_parts r2
  rw [vOf_mul, vOf_mul, a1, b1] at e
  rw [vOf_mul, a1] at h0
  have hst : s = t ∧ m * 2 ^ E = n * 2 ^ F := by
    generalize m * 2 ^ E = p at e h0 ⊢
    generalize n * 2 ^ F = q at e ⊢
    cases s <;> cases t <;> simp at e h0 ⊢ <;> omega
  obtain ⟨rfl, hmn⟩ := hst
  obtain ⟨rfl, rfl⟩ := scale_unique hmn a3 b3 a4 b4
  have hd : x / 2147483648 % 2 = 1 ↔ y / 2147483648 % 2 = 1 := a5.symm.trans b5
  omega
theorem zero_word {x : Nat} (hx : WfF x) (h : Val x 0) : x = 0 ∨ x = 2147483648 := by
  have lx := wf_lt hx
  obtain ⟨s, m, i, r1, e⟩ := h
  obtain ⟨E, a1, a2, a3, a4, a5⟩ := read_parts r1
  rw [vOf_mul, a1] at e
  have hm : m * 2 ^ E = 0 := by
    generalize m * 2 ^ E = p at e ⊢
    cases s <;> simp at e <;> omega
  have hm0 : m = 0 := by
    rcases Nat.mul_eq_zero.1 hm with h | h
    · exact h
    · have := Nat.two_pow_pos E; omega
  subst hm0
  omega
theorem read_nzero : Ieee.single.read 2147483648 = .number true 0 (-149) := by rfl
theorem read_zero' : Ieee.single.read 0 = .number false 0 (-149) := by rfl
theorem sum_zero {s t : Bool} {m : Nat} {i : Int} (hm : m ≠ 0) : (Ieee.Datum.number s m i).sum (.number t 0 (-149)) = (Ieee.Datum.number s m i).sum (.number false 0 (-149)) := by
  have h0 : ∀ (b : Bool) (a : Nat), Ieee.signed b 0 a = 0 := fun b a => by unfold Ieee.signed; simp
  have h1 : Ieee.signed s m (i - min i (-149)).toNat ≠ 0 := by
    unfold Ieee.signed
    rw [Nat.shiftLeft_eq]
    have := Nat.mul_pos (Nat.pos_of_ne_zero hm) (Nat.two_pow_pos (i - min i (-149)).toNat)
    generalize m * 2 ^ (i - min i (-149)).toNat = p at this ⊢
    cases s <;> simp <;> omega
  simp only [Ieee.Datum.sum, h0, Int.add_zero, h1, if_false]
theorem val_ne {s : Bool} {m : Nat} {i : Int} (h : vOf s m i ≠ 0) : m ≠ 0 := by
  rintro rfl
  rw [vOf_mul] at h
  simp at h
theorem add_z {x : Nat} {v : Int} (h : Val x v) (h0 : v ≠ 0) : arF .add .f32 x 2147483648 = arF .add .f32 x 0 := by
  obtain ⟨s, m, i, r1, rfl⟩ := h
  have e : FloatKind.f32.format.add x 2147483648 = FloatKind.f32.format.add x 0 := by
    show Ieee.single.add _ _ = Ieee.single.add _ _
    unfold Ieee.Format.add
    rw [r1, read_nzero, read_zero', sum_zero (val_ne h0)]
  unfold arF
  simp only [e]
theorem sub_z {x : Nat} {v : Int} (h : Val x v) (h0 : v ≠ 0) : arF .sub .f32 x 2147483648 = arF .sub .f32 x 0 := by
  obtain ⟨s, m, i, r1, rfl⟩ := h
  have e : FloatKind.f32.format.sub x 2147483648 = FloatKind.f32.format.sub x 0 := by
    show Ieee.single.sub _ _ = Ieee.single.sub _ _
    unfold Ieee.Format.sub
    rw [r1, read_nzero, read_zero']
    simp only [Ieee.Datum.opposite]
    rw [sum_zero (val_ne h0), sum_zero (t := !false) (val_ne h0)]
  unfold arF
  simp only [e]
theorem zero_pair {x a b : Nat} {v : Int} (h : Val x v) (h0 : v ≠ 0) (ha : a = 0 ∨ a = 2147483648) (hb : b = 0 ∨ b = 2147483648) : arF .add .f32 x a = arF .add .f32 x b ∧ arF .sub .f32 x a = arF .sub .f32 x b := by
  have h1 := add_z h h0
  have h2 := sub_z h h0
  rcases ha with rfl | rfl <;> rcases hb with rfl | rfl <;> simp [h1, h2]
/-! the least level, by the library's function -/
def botM (xs : List Nat) : Nat → Nat
  | 0 => xs.getD 0 0
  | k + 1 => mnF .f32 (botM xs k) (xs.getD (k + 1) 0)
theorem mn_val {x y : Nat} {a b : Int} (hx : Val x a) (hy : Val y b) : Val (mnF .f32 x y) (min a b) := by
  obtain ⟨s, m, e, h1, h1'⟩ := hx
  obtain ⟨t, n, f, h2, h2'⟩ := hy
  have ho : FloatKind.f32.format.order x y = some (compare a b) := by rw [← h1', ← h2']; exact order_v h1 h2
  unfold mnF
  rw [ho]
  rcases Int.lt_trichotomy a b with g | g | g
  · rw [Int.compare_eq_lt.2 g, Int.min_eq_left (by omega)]
    exact ⟨s, m, e, h1, h1'⟩
  · rw [Int.compare_eq_eq.2 g, Int.min_eq_left (by omega)]
    simp only
    split
    · exact ⟨s, m, e, h1, h1'⟩
    · exact ⟨t, n, f, h2, by omega⟩
  · rw [Int.compare_eq_gt.2 g, Int.min_eq_right (by omega)]
    exact ⟨t, n, f, h2, h2'⟩
theorem mn_mem {x y : Nat} {a b : Int} (hx : Val x a) (hy : Val y b) : mnF .f32 x y = x ∨ mnF .f32 x y = y := by
  obtain ⟨s, m, e, h1, h1'⟩ := hx
  obtain ⟨t, n, f, h2, h2'⟩ := hy
  have ho : FloatKind.f32.format.order x y = some (compare a b) := by rw [← h1', ← h2']; exact order_v h1 h2
  unfold mnF
  rw [ho]
  rcases Int.lt_trichotomy a b with g | g | g
  · rw [Int.compare_eq_lt.2 g]; exact .inl rfl
  · rw [Int.compare_eq_eq.2 g]
    simp only
    split
    · exact .inl rfl
    · exact .inr rfl
  · rw [Int.compare_eq_gt.2 g]; exact .inr rfl
theorem mx_mem {x y : Nat} {a b : Int} (hx : Val x a) (hy : Val y b) : mxF .f32 x y = x ∨ mxF .f32 x y = y := by
  obtain ⟨s, m, e, h1, h1'⟩ := hx
  obtain ⟨t, n, f, h2, h2'⟩ := hy
  have ho : FloatKind.f32.format.order x y = some (compare a b) := by rw [← h1', ← h2']; exact order_v h1 h2
  unfold mxF
  rw [ho]
  rcases Int.lt_trichotomy a b with g | g | g
  · rw [Int.compare_eq_lt.2 g]; exact .inr rfl
  · rw [Int.compare_eq_eq.2 g]
    simp only
    split
    · exact .inr rfl
    · exact .inl rfl
  · rw [Int.compare_eq_gt.2 g]; exact .inl rfl
theorem bot_val {xs : List Nat} (h : ∀ k, k < 64 → isNum (xs.getD k 0)) : ∀ k, k < 64 → ∃ v, Val (botS xs k) v ∧ Val (botM xs k) v := by
  intro k
  induction k with
  | zero =>
    intro hk
    obtain ⟨v, hv⟩ := num_val (h 0 hk)
    exact ⟨v, hv, hv⟩
  | succ k ih =>
    intro hk
    obtain ⟨v, h1, h2⟩ := ih (by omega)
    obtain ⟨u, hu⟩ := num_val (h (k + 1) hk)
    refine ⟨min v u, ?_, mn_val h2 hu⟩
    have hg := lss_val hu h1
    cases hc : cmF .lss .f32 (xs.getD (k + 1) 0) (botS xs k) with
    | true =>
      rw [botS_t hc]
      rw [hc] at hg
      have hlt : u < v := by simpa using hg.symm
      rw [Int.min_eq_right (by omega)]; exact hu
    | false =>
      rw [botS_f hc]
      rw [hc] at hg
      have hge : ¬ u < v := by simpa using hg.symm
      rw [Int.min_eq_left (by omega)]; exact h1
theorem wf_getD {xs : List Nat} (h : ∀ x ∈ xs, WfF x) (hx : xs.length = 64) {k : Nat} (hk : k < 64) : WfF (xs.getD k 0) := by
  have : xs.getD k 0 = xs[k] := by simp [hx, hk]
  rw [this]
  exact h _ (List.getElem_mem _)
theorem ends_wf {xs : List Nat} (hw : ∀ x ∈ xs, WfF x) (hx : xs.length = 64) (h : ∀ k, k < 64 → isNum (xs.getD k 0)) : ∀ k, k < 64 → WfF (topS xs k) ∧ WfF (topM xs k) ∧ WfF (botS xs k) ∧ WfF (botM xs k) := by
  intro k
  induction k with
  | zero =>
    intro hk
    have := wf_getD hw hx hk
    exact ⟨this, this, this, this⟩
  | succ k ih =>
    intro hk
    obtain ⟨h1, h2, h3, h4⟩ := ih (by omega)
    have hn := wf_getD hw hx hk
    obtain ⟨v, _, t2, _⟩ := top_val h k (by omega)
    obtain ⟨u, _, b2⟩ := bot_val h k (by omega)
    obtain ⟨z, hz⟩ := num_val (h (k + 1) hk)
    refine ⟨?_, ?_, ?_, ?_⟩
    · simp only [topS]; split
      · exact hn
      · exact h1
    · simp only [topM]
      rcases mx_mem t2 hz with e | e <;> rw [e]
      · exact h2
      · exact hn
    · simp only [botS]; split
      · exact hn
      · exact h3
    · simp only [botM]
      rcases mn_mem b2 hz with e | e <;> rw [e]
      · exact h4
      · exact hn
def conR (s : Int) (xs : List Nat) (t b : Nat) : Nat × Int :=
  if picOk s xs = true then (if cmF .eql .f32 t 0 = true then (0, 5) else if fine (arF .add .f32 t b) = true then (arF .quo .f32 (arF .sub .f32 t b) (arF .add .f32 t b), 0) else (0, 3)) else (0, 1)
theorem conR_1 {s : Int} {xs : List Nat} {t b : Nat} (h : picOk s xs = false) : conR s xs t b = (0, 1) := by simp [conR, h]
theorem conR_5 {s : Int} {xs : List Nat} {t b : Nat} (h : picOk s xs = true) (h2 : cmF .eql .f32 t 0 = true) : conR s xs t b = (0, 5) := by simp [conR, h, h2]
theorem conR_3 {s : Int} {xs : List Nat} {t b : Nat} (h : picOk s xs = true) (h2 : cmF .eql .f32 t 0 = false) (h3 : fine (arF .add .f32 t b) = false) : conR s xs t b = (0, 3) := by simp [conR, h, h2, h3]
theorem conR_0 {s : Int} {xs : List Nat} {t b : Nat} (h : picOk s xs = true) (h2 : cmF .eql .f32 t 0 = false) (h3 : fine (arF .add .f32 t b) = true) : conR s xs t b = (arF .quo .f32 (arF .sub .f32 t b) (arF .add .f32 t b), 0) := by simp [conR, h, h2, h3]
theorem eql_val {x y : Nat} {a b : Int} (hx : Val x a) (hy : Val y b) : cmF .eql .f32 x y = decide (a = b) := by
  obtain ⟨s, m, e, h1, rfl⟩ := hx
  obtain ⟨t, n, f, h2, rfl⟩ := hy
  exact eql_v h1 h2
theorem con_same {s : Int} {xs : List Nat} (hx : xs.length = 64) (hw : ∀ x ∈ xs, WfF x) : conR s xs (topS xs (topIx s)) (botS xs (topIx s)) = conR s xs (topM xs (topIx s)) (botM xs (topIx s)) := by
  cases hok : picOk s xs with
  | false => rw [conR_1 hok, conR_1 hok]
  | true =>
    obtain ⟨N, rfl, hN8, hN0⟩ := pic_nat hok
    have hNN := sq_le hN8
    have hN1 : 0 < N * N := Nat.mul_pos hN0 hN0
    have htop : topIx (N : Int) = N * N - 1 := by unfold topIx; simp
    rw [htop]
    have hnum : ∀ k, k < 64 → isNum (xs.getD k 0) := fun k hk => pic_fine hok hk
    obtain ⟨v, t1, t2, _⟩ := top_val hnum (N * N - 1) (by omega)
    obtain ⟨u, b1, b2⟩ := bot_val hnum (N * N - 1) (by omega)
    obtain ⟨w1, w2, w3, w4⟩ := ends_wf hw hx hnum (N * N - 1) (by omega)
    by_cases hv : v = 0
    · subst hv
      rw [conR_5 hok (by rw [eql_val t1 val_zero]; rfl), conR_5 hok (by rw [eql_val t2 val_zero]; rfl)]
    · have et := word_unique w1 w2 t1 t2 hv
      rw [et]
      by_cases hu : u = 0
      · subst hu
        obtain ⟨e1, e2⟩ := zero_pair t2 hv (zero_word w3 b1) (zero_word w4 b2)
        unfold conR
        rw [e1, e2]
      · rw [word_unique w3 w4 b1 b2 hu]
def conS (s : Int) (xs : List Nat) : Nat × Int := conR s xs (topS xs (topIx s)) (botS xs (topIx s))
def conM (s : Int) (xs : List Nat) : Nat × Int := conR s xs (topM xs (topIx s)) (botM xs (topIx s))
set_option maxRecDepth 20000 in
theorem rspec_ContrastOf {s : Int} {xs : List Nat} (hK : K (fcA (conS s xs)) m) : CallLeaf Try.prog w0 55 [.st [AV.int s, .af 64 xs]] m K := call_nil rfl fun w0 => by
  unfold conS at hK
  refine fn_go hmix h55 ?_
  conv => whnf
  repeat (first | (refine br.yes ?_; conv => whnf) | (refine br.no ?_; conv => whnf))
  refine c_l01Shown ?_
  conv => whnf
  repeat (first | (refine br.yes ?_; conv => whnf) | (refine br.no ?_; conv => whnf))
  refine br_intro (fun h => ?_) (fun h => ?_)
  · conv => whnf
    repeat (first | (refine br.yes ?_; conv => whnf) | (refine br.no ?_; conv => whnf))
    rw [conR_1 (by rw [notB_eq] at h; simpa using h)] at hK
    exact ⟨rfl, hK⟩
  have hok : picOk s xs = true := by rw [notB_eq] at h; simpa using h
  obtain ⟨N, rfl, hN8, hN0⟩ := pic_nat hok
  have htop : topIx (N : Int) = N * N - 1 := by unfold topIx; simp
  rw [htop] at hK
  conv => whnf
  repeat (first | (refine br.yes ?_; conv => whnf) | (refine br.no ?_; conv => whnf))
  refine c_l05Ends ⟨hN0, hN8⟩ ?_
  conv => whnf
  repeat (first | (refine br.yes ?_; conv => whnf) | (refine br.no ?_; conv => whnf))
  refine br_intro (fun h2 => ?_) (fun h2 => ?_)
  · conv => whnf
    repeat (first | (refine br.yes ?_; conv => whnf) | (refine br.no ?_; conv => whnf))
    rw [conR_5 hok h2] at hK
    exact ⟨rfl, hK⟩
  conv => whnf
  repeat (first | (refine br.yes ?_; conv => whnf) | (refine br.no ?_; conv => whnf))
  refine c_l01Fine ?_
  conv => whnf
  repeat (first | (refine br.yes ?_; conv => whnf) | (refine br.no ?_; conv => whnf))
  refine br_intro (fun h3 => ?_) (fun h3 => ?_)
  · conv => whnf
    repeat (first | (refine br.yes ?_; conv => whnf) | (refine br.no ?_; conv => whnf))
    rw [conR_3 hok h2 (by rw [notB_eq] at h3; simpa using h3)] at hK
    exact ⟨rfl, hK⟩
  · conv => whnf
    repeat (first | (refine br.yes ?_; conv => whnf) | (refine br.no ?_; conv => whnf))
    rw [conR_0 hok h2 (by rw [notB_eq] at h3; simpa using h3)] at hK
    exact ⟨rfl, hK⟩
def tcode (s : Int) (xs : List Nat) : Int := if picOk s xs = true then (if cmF .eql .f32 (topM xs (topIx s)) 0 = true then 5 else 0) else 1
set_option maxRecDepth 20000 in
theorem c_topCode {s : Int} {xs : List Nat} (hK : K (AV.int (tcode s xs)) m) : CallLeaf Try.prog w0 92 [.st [AV.int s, .af 64 xs]] m K := call_nil rfl fun w0 => by
  refine fn_go hmix h92 ?_
  conv => whnf
  repeat (first | (refine br.yes ?_; conv => whnf) | (refine br.no ?_; conv => whnf))
  refine c_IsPicture ?_
  conv => whnf
  repeat (first | (refine br.yes ?_; conv => whnf) | (refine br.no ?_; conv => whnf))
  refine br_intro (fun h => ?_) (fun h => ?_)
  · conv => whnf
    repeat (first | (refine br.yes ?_; conv => whnf) | (refine br.no ?_; conv => whnf))
    exact ⟨rfl, K_int hK (by rw [notB_eq] at h; simp at h; simp [tcode, h])⟩
  have hok : picOk s xs = true := by rw [notB_eq] at h; simpa using h
  obtain ⟨N, rfl, hN8, hN0⟩ := pic_nat hok
  have htop : topIx (N : Int) = N * N - 1 := by unfold topIx; simp
  conv => whnf
  repeat (first | (refine br.yes ?_; conv => whnf) | (refine br.no ?_; conv => whnf))
  refine c_top ⟨hN0, hN8⟩ ?_
  conv => whnf
  repeat (first | (refine br.yes ?_; conv => whnf) | (refine br.no ?_; conv => whnf))
  refine br_intro (fun h2 => ?_) (fun h2 => ?_)
  · conv => whnf
    repeat (first | (refine br.yes ?_; conv => whnf) | (refine br.no ?_; conv => whnf))
    exact ⟨rfl, K_int hK (by simp [tcode, hok, htop, h2])⟩
  · conv => whnf
    repeat (first | (refine br.yes ?_; conv => whnf) | (refine br.no ?_; conv => whnf))
    exact ⟨rfl, K_int hK (by simp [tcode, hok, htop, h2])⟩
set_option maxRecDepth 20000 in
theorem c_Min {i N r : Nat} {o : Bool} {s : Int} {xs : List Nat} (hi : getE m i = some ⟨o, .st [AV.int s, .af 64 xs], r⟩) (hN : 0 < N ∧ N ≤ 8) (hK : K (.flt .f32 (botM xs (N * N - 1))) m) : CallLeaf Try.prog w0 94 [.sl i [.fld 1 1] 1 0 (N * N) 64] m K := by
  have hNN := sq_le hN.2
  have hN1 : 0 < N * N := Nat.mul_pos hN.1 hN.1
  have e0 : nth xs (addN 0 (toN 0)) 0 = xs.getD 0 0 := by rw [nth_eq, addN_eq, toN_eq]; rfl
  refine fn_go hmix h94 ?_
  conv => whnf
  repeat (first | (refine br.yes ?_; conv => whnf) | (refine br.no ?_; conv => whnf))
  refine br_false (by rw [cmI_lss]; simp only [decide_eq_false_iff_not]; omega) ?_
  conv => whnf
  repeat (first | (refine br.yes ?_; conv => whnf) | (refine br.no ?_; conv => whnf))
  refine ⟨side_in ⟨by omega, by omega⟩, ?_⟩
  conv => whnf
  repeat (first | (refine br.yes ?_; conv => whnf) | (refine br.no ?_; conv => whnf))
  rw [hi]
  conv => whnf
  repeat (first | (refine br.yes ?_; conv => whnf) | (refine br.no ?_; conv => whnf))
  refine ⟨side_in (show addN 0 (toN 0) < 64 by rw [addN_eq, toN_eq]; decide), ?_⟩
  rw [e0]
  conv => whnf
  repeat (first | (refine br.yes ?_; conv => whnf) | (refine br.no ?_; conv => whnf))
  refine loop_inv (N * N - 1) (fun k ts m' => m' = m ∧ ts = [.sl i [.fld 1 1] 1 0 (N * N) 64, .junk, .flt .f32 0, .flt .f32 (botM xs k), AV.int (k + 1 : Nat), .junk, .junk, .junk, .junk, .junk, .junk, .junk, .junk, .junk, .junk, .junk, .junk, .junk, .junk, .junk, .junk, .junk, .junk, .junk, .junk]) _ _ ?hw trim_no ⟨rfl, rfl⟩ ?_
  case hw =>
    repeat (first | exact weak_nil | refine weak_same ?_ | refine weak_junk ?_)
  rintro k hk ts m' ⟨rfl, rfl⟩ R hR
  conv => whnf
  repeat (first | (refine br.yes ?_; conv => whnf) | (refine br.no ?_; conv => whnf))
  refine br_intro (fun g1 => ?_) (fun g1 => ?_)
  · have hk1 : k + 1 < N * N := lt_of_lss g1
    have hk64 : k + 1 < 64 := by omega
    conv => whnf
    repeat (first | (refine br.yes ?_; conv => whnf) | (refine br.no ?_; conv => whnf))
    refine ⟨side_in ⟨by omega, by omega⟩, ?_⟩
    conv => whnf
    repeat (first | (refine br.yes ?_; conv => whnf) | (refine br.no ?_; conv => whnf))
    rw [hi]
    conv => whnf
    repeat (first | (refine br.yes ?_; conv => whnf) | (refine br.no ?_; conv => whnf))
    refine ⟨side_in (at_lt hk64), ?_⟩
    rw [nth_at]
    conv => whnf
    repeat (first | (refine br.yes ?_; conv => whnf) | (refine br.no ?_; conv => whnf))
    rw [add_one (by omega)]
    refine hR (by omega) _ _ _ _ ?hw2 trim_no ⟨rfl, rfl⟩
    case hw2 =>
      repeat (first | exact weak_nil | refine weak_same ?_ | refine weak_junk ?_)
  · have hk2 : k = N * N - 1 := by have := ge_of_lss g1; omega
    subst hk2
    conv => whnf
    repeat (first | (refine br.yes ?_; conv => whnf) | (refine br.no ?_; conv => whnf))
    exact hK
theorem q_keepS' {f : Nat} {args : List AV} {K : AV → Prop} (v : AV) (h : ∀ (m : MS) (K' : AV → MS → Prop), K' v m → CallLeaf Try.prog w0 f args m K') (hK : K v) : QLeafS Try.prog w0 f args m K :=
  ⟨v, fun x => h _ _ ⟨rfl, rfl⟩, hK⟩
set_option maxRecDepth 20000 in
theorem rimpl_ContrastOf {s : Int} {xs : List Nat} (hK : K (fcA (conM s xs)) m) : CallLeaf Try.prog w0 56 [.st [AV.int s, .af 64 xs]] m K := call_nil rfl fun w0 => by
  unfold conM at hK
  refine fn_go hmix h56 ?_
  conv => whnf
  repeat (first | (refine br.yes ?_; conv => whnf) | (refine br.no ?_; conv => whnf))
  refine c_topCode ?_
  cases hok : picOk s xs with
  | false =>
    have e : tcode s xs = 1 := by simp [tcode, hok]
    rw [e]
    rw [conR_1 hok] at hK
    conv => whnf
    repeat (first | (refine br.yes ?_; conv => whnf) | (refine br.no ?_; conv => whnf))
    refine br_true (by rw [cmI_neq]; rfl) ?_
    conv => whnf
    repeat (first | (refine br.yes ?_; conv => whnf) | (refine br.no ?_; conv => whnf))
    exact ⟨rfl, hK⟩
  | true =>
    cases h2 : cmF .eql .f32 (topM xs (topIx s)) 0 with
    | true =>
      have e : tcode s xs = 5 := by simp [tcode, hok, h2]
      rw [e]
      rw [conR_5 hok h2] at hK
      conv => whnf
      repeat (first | (refine br.yes ?_; conv => whnf) | (refine br.no ?_; conv => whnf))
      refine br_true (by rw [cmI_neq]; rfl) ?_
      conv => whnf
      repeat (first | (refine br.yes ?_; conv => whnf) | (refine br.no ?_; conv => whnf))
      exact ⟨rfl, hK⟩
    | false =>
      have e : tcode s xs = 0 := by simp [tcode, hok, h2]
      rw [e]
      obtain ⟨N, rfl, hN8, hN0⟩ := pic_nat hok
      have htop : topIx (N : Int) = N * N - 1 := by unfold topIx; simp
      rw [htop] at hK h2
      conv => whnf
      repeat (first | (refine br.yes ?_; conv => whnf) | (refine br.no ?_; conv => whnf))
      refine br_false (neq_self _) ?_
      conv => whnf
      repeat (first | (refine br.yes ?_; conv => whnf) | (refine br.no ?_; conv => whnf))
      refine q_keepS' (.flt .f32 (topM xs (N * N - 1))) (fun m K' h => c_top ⟨hN0, hN8⟩ h) ?_
      conv => whnf
      repeat (first | (refine br.yes ?_; conv => whnf) | (refine br.no ?_; conv => whnf))
      refine c_levels hN8 ?_
      refine ⟨⟨_, rfl⟩, ?_⟩
      conv => whnf
      repeat (first | (refine br.yes ?_; conv => whnf) | (refine br.no ?_; conv => whnf))
      refine q_keep (.flt .f32 (botM xs (N * N - 1))) (fun K' h => c_Min (i := 1) rfl ⟨hN0, hN8⟩ h) ?_
      conv => whnf
      repeat (first | (refine br.yes ?_; conv => whnf) | (refine br.no ?_; conv => whnf))
      refine c_isNumber ?_
      conv => whnf
      repeat (first | (refine br.yes ?_; conv => whnf) | (refine br.no ?_; conv => whnf))
      refine br_intro (fun h3 => ?_) (fun h3 => ?_)
      · conv => whnf
        repeat (first | (refine br.yes ?_; conv => whnf) | (refine br.no ?_; conv => whnf))
        rw [conR_3 hok h2 (by rw [notB_eq] at h3; simpa using h3)] at hK
        exact ⟨rfl, hK⟩
      · conv => whnf
        repeat (first | (refine br.yes ?_; conv => whnf) | (refine br.no ?_; conv => whnf))
        rw [conR_0 hok h2 (by rw [notB_eq] at h3; simpa using h3)] at hK
        exact ⟨rfl, hK⟩
theorem ospec_ContrastOf {s : Int} {xs : List Nat} (hK : K (fcA (plusF (conS s xs))) m) : CallLeaf Try.prog w0 24 [.st [AV.int s, .af 64 xs]] m K := call_nil rfl fun w0 => by
  refine fn_go hmix h24 ?_
  conv => whnf
  repeat (first | (refine br.yes ?_; conv => whnf) | (refine br.no ?_; conv => whnf))
  refine rspec_ContrastOf ?_
  unfold fcA plusF at hK
  unfold fcA
  generalize conS s xs = R at hK ⊢
  conv => whnf
  repeat (first | (refine br.yes ?_; conv => whnf) | (refine br.no ?_; conv => whnf))
  refine c_l01PlusNumber ?_
  conv => whnf
  repeat (first | (refine br.yes ?_; conv => whnf) | (refine br.no ?_; conv => whnf))
  exact ⟨rfl, hK⟩
theorem oimpl_ContrastOf {s : Int} {xs : List Nat} (hK : K (fcA (plusF (conM s xs))) m) : CallLeaf Try.prog w0 25 [.st [AV.int s, .af 64 xs]] m K := call_nil rfl fun w0 => by
  refine fn_go hmix h25 ?_
  conv => whnf
  repeat (first | (refine br.yes ?_; conv => whnf) | (refine br.no ?_; conv => whnf))
  refine rimpl_ContrastOf ?_
  unfold fcA plusF at hK
  unfold fcA
  generalize conM s xs = R at hK ⊢
  conv => whnf
  repeat (first | (refine br.yes ?_; conv => whnf) | (refine br.no ?_; conv => whnf))
  refine c_plainF32 ?_
  conv => whnf
  repeat (first | (refine br.yes ?_; conv => whnf) | (refine br.no ?_; conv => whnf))
  exact ⟨rfl, hK⟩
set_option maxRecDepth 20000 in
theorem law_ContrastOf {s : Int} {xs : List Nat} (hx : xs.length = 64) (hw : ∀ x ∈ xs, WfF x) (hK : ∀ m, K (AV.bool true) m) : CallLeaf Try.prog w0 7 [.st [AV.int s, .af 64 xs]] [] K := by
  refine fn_go hmix h7 ?_
  conv => whnf
  repeat (first | (refine br.yes ?_; conv => whnf) | (refine br.no ?_; conv => whnf))
  obtain ⟨R, hR⟩ : ∃ R, R = plusF (conS s xs) := ⟨_, rfl⟩
  refine c_toPicture hx ?_
  conv => whnf
  repeat (first | (refine br.yes ?_; conv => whnf) | (refine br.no ?_; conv => whnf))
  refine ospec_ContrastOf ?_
  rw [← hR]
  unfold fcA
  conv => whnf
  repeat (first | (refine br.yes ?_; conv => whnf) | (refine br.no ?_; conv => whnf))
  refine c_toPicture hx ?_
  conv => whnf
  repeat (first | (refine br.yes ?_; conv => whnf) | (refine br.no ?_; conv => whnf))
  refine oimpl_ContrastOf ?_
  have e : plusF (conM s xs) = R := by rw [hR]; unfold conM conS; rw [con_same hx hw]
  rw [e]
  unfold fcA
  conv => whnf
  repeat (first | (refine br.yes ?_; conv => whnf) | (refine br.no ?_; conv => whnf))
  refine c_sameFloat ?_
  conv => whnf
  repeat (first | (refine br.yes ?_; conv => whnf) | (refine br.no ?_; conv => whnf))
  refine br_false (by rw [notB_eq]; rfl) ?_
  conv => whnf
  repeat (first | (refine br.yes ?_; conv => whnf) | (refine br.no ?_; conv => whnf))
  refine br_false (neq_self _) ?_
  conv => whnf
  repeat (first | (refine br.yes ?_; conv => whnf) | (refine br.no ?_; conv => whnf))
  exact hK _
end
end Go.Proofs.Ytfoflddjcijaeaa
