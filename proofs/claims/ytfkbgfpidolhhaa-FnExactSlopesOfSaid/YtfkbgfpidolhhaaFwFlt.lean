import Derived.Test.YtfkbgfpidolhhaaFwAwp
import Derived.Laws.FloatArith
namespace Go.Fw
open Go Ieee

theorem isNaN_iff (d : Datum) : d.isNaN = true ↔ ∃ s t, d = .nan s t := by
  cases d <;> simp [Datum.isNaN]
theorem sum_nan_l {d e : Datum} (h : d.isNaN = true) : d.sum e = none := by
  obtain ⟨s, t, rfl⟩ := (isNaN_iff d).1 h; cases e <;> rfl
theorem sum_nan_r {d e : Datum} (h : e.isNaN = true) : d.sum e = none := by
  obtain ⟨s, t, rfl⟩ := (isNaN_iff e).1 h; cases d <;> rfl
theorem product_nan_l {d e : Datum} (h : d.isNaN = true) : d.product e = none := by
  obtain ⟨s, t, rfl⟩ := (isNaN_iff d).1 h; cases e <;> rfl
theorem product_nan_r {d e : Datum} (h : e.isNaN = true) : d.product e = none := by
  obtain ⟨s, t, rfl⟩ := (isNaN_iff e).1 h; cases d <;> rfl
theorem quotient_nan_l {n : Nat} {d e : Datum} (h : d.isNaN = true) : d.quotient n e = none := by
  obtain ⟨s, t, rfl⟩ := (isNaN_iff d).1 h; cases e <;> rfl
theorem quotient_nan_r {n : Nat} {d e : Datum} (h : e.isNaN = true) : d.quotient n e = none := by
  obtain ⟨s, t, rfl⟩ := (isNaN_iff e).1 h; cases d <;> rfl
theorem order_nan_l {d e : Datum} (h : d.isNaN = true) : d.order e = none := by
  obtain ⟨s, t, rfl⟩ := (isNaN_iff d).1 h; cases e <;> rfl
theorem order_nan_r {d e : Datum} (h : e.isNaN = true) : d.order e = none := by
  obtain ⟨s, t, rfl⟩ := (isNaN_iff e).1 h; cases d <;> rfl
theorem opposite_nan {d : Datum} : d.opposite.isNaN = d.isNaN := by cases d <;> rfl

theorem nanW_nan (k : FloatKind) : (k.decode (nanW k)).isNaN = true := by cases k <;> decide
theorem canon_nan {k : FloatKind} {b : Nat} (h : (k.decode b).isNaN = true) : canon k b = nanW k := by unfold canon; rw [h]; rfl
theorem canon_canon (k : FloatKind) (b : Nat) : canon k (canon k b) = canon k b := by
  cases h : (k.decode b).isNaN with
  | true => rw [canon_nan h, canon_nan (nanW_nan k)]
  | false => rw [canon_num h, canon_num h]
where canon_num {k : FloatKind} {b : Nat} (h : (k.decode b).isNaN = false) : canon k b = b := by unfold canon; rw [h]; rfl
theorem canon_num' {k : FloatKind} {b : Nat} (h : (k.decode b).isNaN = false) : canon k b = b := by unfold canon; rw [h]; rfl

/-- an operation that gives nothing at a NaN does not see which -/
theorem via_canon {α : Type} {k : FloatKind} {f : Datum → Datum → Option α} (hl : ∀ d e, d.isNaN = true → f d e = none) (hr : ∀ d e, e.isNaN = true → f d e = none) (x y : Nat) :
    f (k.decode (canon k x)) (k.decode (canon k y)) = f (k.decode x) (k.decode y) := by
  cases hx : (k.decode x).isNaN with
  | true => rw [canon_nan hx, hl _ _ (nanW_nan k), hl _ _ hx]
  | false =>
    rw [canon_num' hx]
    cases hy : (k.decode y).isNaN with
    | true => rw [canon_nan hy, hr _ _ (nanW_nan k), hr _ _ hy]
    | false => rw [canon_num' hy]
theorem add_canon (k : FloatKind) (x y : Nat) : k.format.add (canon k x) (canon k y) = k.format.add x y := by
  have := via_canon (k := k) (f := fun d e => (d.sum e).map k.format.write) (fun d e h => by simp [sum_nan_l h]) (fun d e h => by simp [sum_nan_r h]) x y
  exact this
theorem sub_canon (k : FloatKind) (x y : Nat) : k.format.sub (canon k x) (canon k y) = k.format.sub x y := by
  have := via_canon (k := k) (f := fun d e => (d.sum e.opposite).map k.format.write) (fun d e h => by simp [sum_nan_l h]) (fun d e h => by simp [sum_nan_r (e := e.opposite) (by rw [opposite_nan]; exact h)]) x y
  exact this
theorem mul_canon (k : FloatKind) (x y : Nat) : k.format.mul (canon k x) (canon k y) = k.format.mul x y := by
  have := via_canon (k := k) (f := fun d e => (d.product e).map k.format.write) (fun d e h => by simp [product_nan_l h]) (fun d e h => by simp [product_nan_r h]) x y
  exact this
theorem div_canon (k : FloatKind) (x y : Nat) : k.format.div (canon k x) (canon k y) = k.format.div x y := by
  have := via_canon (k := k) (f := fun d e => (d.quotient (k.format.fractionBits + 2) e).map k.format.write) (fun d e h => by simp [quotient_nan_l h]) (fun d e h => by simp [quotient_nan_r h]) x y
  exact this
theorem order_canon (k : FloatKind) (x y : Nat) : k.format.order (canon k x) (canon k y) = k.format.order x y := by
  exact via_canon (k := k) (f := fun d e => d.order e) (fun d e h => order_nan_l h) (fun d e h => order_nan_r h) x y

/-- what the tape gives for a NaN is one -/
theorem read_nan (k : FloatKind) (b : Nat) (h : k.format.infRung < b % k.format.signWeight) : (k.decode b).isNaN = true := by
  have hb : k.format.binade ≤ k.format.infRung := by cases k <;> decide
  unfold FloatKind.decode Format.read
  simp only
  rw [if_neg (by omega), if_neg (by omega), if_neg (by omega)]
  rfl
theorem cut_nan (k : FloatKind) (q : Question) (hq : (∃ x y, q = .nanBits k x y) ∨ (∃ b, q = .nanConv k b) ∨ (∃ i x y, q = .nanMinMax k i x y)) (t : Nat) : canon k (q.cut t) = nanW k := by
  refine canon_nan (read_nan k _ ?_)
  cases k
  · have h1 : FloatKind.f32.format.infRung = 2139095040 := by decide
    have h2 : FloatKind.f32.format.signWeight = 2147483648 := by decide
    have e : q.cut t = (t % 2) * 2147483648 + 2139095040 + 1 + (t / 2) % 8388607 := by
      rcases hq with ⟨x, y, rfl⟩ | ⟨b, rfl⟩ | ⟨i, x, y, rfl⟩ <;> rfl
    have hr := Nat.mod_lt (t / 2) (show 0 < 8388607 by decide)
    generalize (t / 2) % 8388607 = r at e hr
    rw [h1, h2, e]
    rcases Nat.mod_two_eq_zero_or_one t with h | h <;> rw [h] <;> omega
  · have h1 : FloatKind.f64.format.infRung = 9218868437227405312 := by decide
    have h2 : FloatKind.f64.format.signWeight = 9223372036854775808 := by decide
    have e : q.cut t = (t % 2) * 9223372036854775808 + 9218868437227405312 + 1 + (t / 2) % 4503599627370495 := by
      rcases hq with ⟨x, y, rfl⟩ | ⟨b, rfl⟩ | ⟨i, x, y, rfl⟩ <;> rfl
    have hr := Nat.mod_lt (t / 2) (show 0 < 4503599627370495 by decide)
    generalize (t / 2) % 4503599627370495 = r at e hr
    rw [h1, h2, e]
    rcases Nat.mod_two_eq_zero_or_one t with h | h <;> rw [h] <;> omega

section
variable {P : Program} {w : World}
theorem run_choose_nan (k : FloatKind) (q : Question) (hq : (∃ x y, q = .nanBits k x y) ∨ (∃ b, q = .nanConv k b) ∨ (∃ i x y, q = .nanMinMax k i x y)) :
    ∃ r, (choose q).run P w = .ok r w.drew ∧ canon k r = nanW k := by
  refine ⟨q.cut (w.tape w.drawn q), ?_, cut_nan k q hq _⟩
  rw [run_choose, if_neg (by rcases hq with ⟨x, y, rfl⟩ | ⟨b, rfl⟩ | ⟨i, x, y, rfl⟩ <;> simp [Question.forced])]
  rfl
/-- + - * / on floats: the value by its canonical bits; the world, or the world behind one draw -/
theorem run_farith (op : BinOp) (hop : isFArith op = true) (k : FloatKind) (x y : Nat) :
    ∃ r w', (Op.floatArith op k x y).run P w = .ok (.float k r) w' ∧ canon k r = arF op k (canon k x) (canon k y) ∧ (w' = w ∨ w' = w.drew) := by
  have key : ∀ (z : Option Nat), ∃ r w', ((match z with
      | some r => pure (.float k r)
      | none => do pure (.float k (← choose (.nanBits k x y))) : Sem Value)).run P w = .ok (.float k r) w' ∧ canon k r = (match z with | some r => canon k r | none => nanW k) ∧ (w' = w ∨ w' = w.drew) := by
    intro z
    cases z with
    | some r => exact ⟨r, w, rfl, rfl, .inl rfl⟩
    | none =>
      obtain ⟨r, h1, h2⟩ := run_choose_nan (P := P) (w := w) k (.nanBits k x y) (.inl ⟨x, y, rfl⟩)
      exact ⟨r, w.drew, by simp only [Sem.run_bind, h1, Result.andThen_ok, Sem.run_pure], h2, .inr rfl⟩
  cases op <;> simp [isFArith] at hop
  · obtain ⟨r, w', h1, h2, h3⟩ := key (k.format.add x y)
    exact ⟨r, w', h1, by rw [h2]; unfold arF; simp only [add_canon]; cases k.format.add x y <;> rfl, h3⟩
  · obtain ⟨r, w', h1, h2, h3⟩ := key (k.format.sub x y)
    exact ⟨r, w', h1, by rw [h2]; unfold arF; simp only [sub_canon]; cases k.format.sub x y <;> rfl, h3⟩
  · obtain ⟨r, w', h1, h2, h3⟩ := key (k.format.mul x y)
    exact ⟨r, w', h1, by rw [h2]; unfold arF; simp only [mul_canon]; cases k.format.mul x y <;> rfl, h3⟩
  · obtain ⟨r, w', h1, h2, h3⟩ := key (k.format.div x y)
    exact ⟨r, w', h1, by rw [h2]; unfold arF; simp only [div_canon]; cases k.format.div x y <;> rfl, h3⟩
theorem run_fcmp (op : BinOp) (hop : isCmp op = true) (k : FloatKind) (x y : Nat) :
    (Op.floatCmp op k x y).run P w = .ok (.bool (cmF op k (canon k x) (canon k y))) w := by
  unfold cmF
  cases op <;> simp [isCmp] at hop <;> simp only [Op.floatCmp, order_canon, Sem.run_pure]

theorem neg_nan (k : FloatKind) (b : Nat) : (k.decode (Op.negFloat k b)).isNaN = (k.decode b).isNaN := by
  have hs : k.format.signWeight = 2 ^ (k.format.exponentBits + k.format.fractionBits) := rfl
  have e : Op.negFloat k b % k.format.signWeight = b % k.format.signWeight := by
    unfold Op.negFloat
    rw [hs, Nat.xor_mod_two_pow]
    simp
  unfold FloatKind.decode Format.read
  simp only [e]
  repeat' split
  all_goals rfl
theorem ngF_canon (k : FloatKind) (b : Nat) : canon k (Op.negFloat k b) = ngF k (canon k b) := by
  unfold ngF
  show _ = canon k (Op.negFloat k (canon k b))
  cases h : (k.decode b).isNaN with
  | true =>
    rw [canon_nan (b := Op.negFloat k b) (by rw [neg_nan]; exact h), canon_nan h, canon_nan (by rw [neg_nan]; exact nanW_nan k)]
  | false => rw [canon_num' h]
end
end Go.Fw
