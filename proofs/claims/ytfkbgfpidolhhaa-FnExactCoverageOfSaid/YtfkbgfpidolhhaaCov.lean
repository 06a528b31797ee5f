/- Contracts of functions, by a walk each. -/
import Derived.Test.YtfkbgfpidolhhaaConM
namespace Go.Proofs.Ytfkbgfpidolhhaa
open Go Go.Fw
section
variable {w0 : World} {m : MS} {K : AV → MS → Prop}
/-! how often cells are covered -/
theorem mul_nat {a b : Nat} (ha : a ≤ 1048576) (hb : b ≤ 1048576) : arI .mul .i64 (a : Int) (b : Int) = ((a * b : Nat) : Int) := by
  have h : a * b ≤ 1048576 * 1048576 := Nat.mul_le_mul ha hb
  have h2 : ((a : Int) * (b : Int)) = ((a * b : Nat) : Int) := by simp
  rw [arI_mul, h2, wrap_fits (by omega) (by omega)]
theorem add_nat {a b : Nat} (ha : a ≤ 1048576) (hb : b ≤ 1048576) : arI .add .i64 (a : Int) (b : Int) = ((a + b : Nat) : Int) := by
  have h2 : ((a : Int) + (b : Int)) = ((a + b : Nat) : Int) := by simp
  rw [arI_add, h2, wrap_fits (by omega) (by omega)]
theorem sub_one {a : Nat} (h1 : 0 < a) (ha : a ≤ 1048576) : arI .sub .i64 (a : Int) 1 = ((a - 1 : Nat) : Int) := by
  rw [arI_sub, wrap_fits (by omega) (by omega)]; omega
theorem quo_nat {a b : Nat} (ha : a ≤ 1048576) : arI .quo .i64 (a : Int) (b : Int) = ((a / b : Nat) : Int) := by
  have h : a / b ≤ a := Nat.div_le_self a b
  rw [arI_quo, ← Int.ofNat_tdiv]
  generalize a / b = q at h
  exact wrap_fits (by omega) (by omega)
theorem rem_nat (a b : Nat) : arI .rem .i64 (a : Int) (b : Int) = ((a % b : Nat) : Int) := by
  rw [arI_rem, ← Int.ofNat_tmod]
theorem sq_le {N : Nat} (h : N ≤ 8) : N * N ≤ 64 := Nat.mul_le_mul h h
/-- A loop's rounds, with what follows them closed. -/
theorem loop_opq {nb : Nat} {body : TS → MS → (DExit → TS → MS → Prop) → Prop} {ts : TS} {m : MS} {K : DExit → TS → MS → Prop} (N : Nat) (I : Nat → TS → MS → Prop) (ts0 : TS) (m0 : MS) (hw : Weak ts ts0) (ht : Trim nb ts0 m m0) (h0 : I 0 ts0 m0)
    (hs : ∀ i, i ≤ N → ∀ ts m, I i ts m → ∀ R : TS → MS → Prop, (i < N → ∀ ts m ts' m', Weak ts ts' → Trim nb ts' m m' → I (i + 1) ts' m' → R ts m) →
      ∀ KK : DExit → TS → MS → Prop, (∀ ts m, R ts m → KK .normal ts m) → (∀ ts m, K .ret ts m → KK .ret ts m) → (∀ j ts m, K (.exit j) ts m → KK (.exit j) ts m) → body ts m KK) : LoopLeaf nb body ts m K :=
  loop_inv N I ts0 m0 hw ht h0 (fun i hi ts m h R hR => hs i hi ts m h R hR _ (fun _ _ h => h) (fun _ _ h => h) (fun _ _ _ h => h))
/-- a place within a grid -/
def plOk (n : Int) (at' : Int × Int) : Bool := inR at'.1 0 (arI .sub .i64 n 1) && inR at'.2 0 (arI .sub .i64 n 1)
theorem c_l08Place {n a b : Int} (hK : K (AV.bool (plOk n (a, b))) m) : CallLeaf Try.prog w0 57 [AV.int n, .st [AV.int a, AV.int b]] m K := call_nil rfl fun w0 => by
  refine fn_go hmix h57 ?_
  conv => whnf
  repeat (first | (refine br.yes ?_; conv => whnf) | (refine br.no ?_; conv => whnf))
  refine c40 ?_
  conv => whnf
  repeat (first | (refine br.yes ?_; conv => whnf) | (refine br.no ?_; conv => whnf))
  refine br_intro (fun h => ?_) (fun h => ?_)
  · conv => whnf
    repeat (first | (refine br.yes ?_; conv => whnf) | (refine br.no ?_; conv => whnf))
    refine c40 ?_
    conv => whnf
    repeat (first | (refine br.yes ?_; conv => whnf) | (refine br.no ?_; conv => whnf))
    exact ⟨rfl, K_bool hK (by simp [plOk, h])⟩
  · conv => whnf
    repeat (first | (refine br.yes ?_; conv => whnf) | (refine br.no ?_; conv => whnf))
    exact ⟨rfl, K_bool hK (by simp [plOk, h])⟩
theorem c_toPlace {a b : Int} (hK : K (.st [AV.int a, AV.int b]) m) : CallLeaf Try.prog w0 58 [.st [AV.int a, AV.int b]] m K := call_nil rfl fun w0 => by
  refine fn_go hmix h58 ?_
  conv => whnf
  repeat (first | (refine br.yes ?_; conv => whnf) | (refine br.no ?_; conv => whnf))
  exact ⟨rfl, hK⟩
theorem c_areSides {n k : Int} (hK : K (AV.bool (isSide n && isSide k && decide (k ≤ n))) m) : CallLeaf Try.prog w0 59 [AV.int n, AV.int k] m K := by
  refine fn_go hmix h59 ?_
  conv => whnf
  repeat (first | (refine br.yes ?_; conv => whnf) | (refine br.no ?_; conv => whnf))
  refine c46 ?_
  conv => whnf
  repeat (first | (refine br.yes ?_; conv => whnf) | (refine br.no ?_; conv => whnf))
  refine br_intro (fun h => ?_) (fun h => ?_)
  · conv => whnf
    repeat (first | (refine br.yes ?_; conv => whnf) | (refine br.no ?_; conv => whnf))
    refine c46 ?_
    conv => whnf
    repeat (first | (refine br.yes ?_; conv => whnf) | (refine br.no ?_; conv => whnf))
    refine br_intro (fun h2 => ?_) (fun h2 => ?_)
    · conv => whnf
      repeat (first | (refine br.yes ?_; conv => whnf) | (refine br.no ?_; conv => whnf))
      exact K_bool hK (by rw [cmI_leq]; simp [h, h2])
    · conv => whnf
      repeat (first | (refine br.yes ?_; conv => whnf) | (refine br.no ?_; conv => whnf))
      exact K_bool hK (by simp [h, h2])
  · conv => whnf
    repeat (first | (refine br.yes ?_; conv => whnf) | (refine br.no ?_; conv => whnf))
    exact K_bool hK (by simp [h])
theorem c_arePl1 {q r : Nat} {o : Bool} {n a b : Int} (hq : getE m q = some ⟨o, AV.int n, r⟩) (hK : K (AV.bool (!plOk n (a, b))) m) : CallLeaf Try.prog w0 70 [.st [AV.int a, AV.int b], .ptr q []] m K := by
  refine call_keep ?_
  refine fn_go hmix h70 ?_
  conv => whnf
  repeat (first | (refine br.yes ?_; conv => whnf) | (refine br.no ?_; conv => whnf))
  rw [newK_eq]
  conv => whnf
  repeat (first | (refine br.yes ?_; conv => whnf) | (refine br.no ?_; conv => whnf))
  rw [getE_last]
  conv => whnf
  repeat (first | (refine br.yes ?_; conv => whnf) | (refine br.no ?_; conv => whnf))
  rw [getE_left hq]
  conv => whnf
  repeat (first | (refine br.yes ?_; conv => whnf) | (refine br.no ?_; conv => whnf))
  refine c47 ?_
  conv => whnf
  repeat (first | (refine br.yes ?_; conv => whnf) | (refine br.no ?_; conv => whnf))
  refine br_intro (fun h => ?_) (fun h => ?_)
  · conv => whnf
    repeat (first | (refine br.yes ?_; conv => whnf) | (refine br.no ?_; conv => whnf))
    exact ⟨by simp, rfl, K_bool hK (by rw [notB_eq] at h; simp at h; simp [plOk, h])⟩
  · conv => whnf
    repeat (first | (refine br.yes ?_; conv => whnf) | (refine br.no ?_; conv => whnf))
    rw [getE_last]
    conv => whnf
    repeat (first | (refine br.yes ?_; conv => whnf) | (refine br.no ?_; conv => whnf))
    rw [getE_left hq]
    conv => whnf
    repeat (first | (refine br.yes ?_; conv => whnf) | (refine br.no ?_; conv => whnf))
    refine c47 ?_
    conv => whnf
    repeat (first | (refine br.yes ?_; conv => whnf) | (refine br.no ?_; conv => whnf))
    exact ⟨by simp, rfl, K_bool hK (by rw [notB_eq] at h ⊢; simp at h; simp [plOk, h])⟩
theorem c_idxP {i n c r f : Nat} {o : Bool} {xs : List (Int × Int)} {caps : List AV} {p : Int × Int → Bool} (hf : fnHas Try.prog f = true) (hp : ∀ (x : Int × Int) (K : AV → MS → Prop), K (AV.bool (p x)) m → CallLeaf Try.prog w0 f (.st [AV.int x.1, AV.int x.2] :: caps) m K)
    (hi : getE m i = some ⟨o, .ap n xs, r⟩) (hx : xs.length = n) (hn : n ≤ 1048576)
    (hK : ∀ q : Int, (0 ≤ q ↔ xs.any p = true) → K (AV.int q) m) : CallLeaf Try.prog w0 73 [.sl i [] 2 0 n c, .fn f caps] m K := by
  refine fn_go hmix h73 ?_
  conv => whnf
  repeat (first | (refine br.yes ?_; conv => whnf) | (refine br.no ?_; conv => whnf))
  refine loop_inv n (fun k ts m' => m' = m ∧ ts = [.sl i [] 2 0 n c, .fn f caps, .junk, .junk, AV.int 0, .junk, .junk, AV.int n, AV.int k, .junk, .junk, .junk, .junk, .junk, .junk, .junk, .junk, .junk, .junk] ∧ ∀ q, q < k → p (xs.getD q (0, 0)) = false) _ _ ?hw trim_no ⟨rfl, rfl, by intro p hp; omega⟩ ?_
  case hw =>
    repeat (first | exact weak_nil | refine weak_same ?_ | refine weak_junk ?_)
  rintro k hk ts m' ⟨rfl, rfl, hpre⟩ R hR
  conv => whnf
  repeat (first | (refine br.yes ?_; conv => whnf) | (refine br.no ?_; conv => whnf))
  refine br_intro (fun h3 => ?_) (fun h3 => ?_)
  · conv => whnf
    repeat (first | (refine br.yes ?_; conv => whnf) | (refine br.no ?_; conv => whnf))
    have hk1 := lt_of_lss h3
    refine ⟨side_in ⟨by omega, by omega⟩, ?_⟩
    conv => whnf
    repeat (first | (refine br.yes ?_; conv => whnf) | (refine br.no ?_; conv => whnf))
    rw [hi]
    conv => whnf
    repeat (first | (refine br.yes ?_; conv => whnf) | (refine br.no ?_; conv => whnf))
    refine ⟨side_in (at_lt hk1), ?_⟩
    rw [nth_at]
    conv => whnf
    repeat (first | (refine br.yes ?_; conv => whnf) | (refine br.no ?_; conv => whnf))
    refine ⟨side_in hf, ?_⟩
    conv => whnf
    repeat (first | (refine br.yes ?_; conv => whnf) | (refine br.no ?_; conv => whnf))
    refine hp _ _ ?_
    conv => whnf
    repeat (first | (refine br.yes ?_; conv => whnf) | (refine br.no ?_; conv => whnf))
    refine br_intro (fun h4 => ?_) (fun h4 => ?_)
    · conv => whnf
      repeat (first | (refine br.yes ?_; conv => whnf) | (refine br.no ?_; conv => whnf))
      refine hK _ ⟨fun _ => ?_, fun _ => by omega⟩
      rw [List.any_eq_true]
      exact ⟨xs[k]'(by omega), List.getElem_mem _, by simpa [hx, hk1] using h4⟩
    · conv => whnf
      repeat (first | (refine br.yes ?_; conv => whnf) | (refine br.no ?_; conv => whnf))
      rw [add_one (by omega)]
      refine hR hk1 _ _ _ _ ?hw2 trim_no ⟨rfl, rfl, fun q hq => ?_⟩
      case hw2 =>
        repeat (first | exact weak_nil | refine weak_same ?_ | refine weak_junk ?_)
      rcases Nat.lt_or_ge q k with hlt | hge
      · exact hpre q hlt
      · have : q = k := by omega
        subst this; exact h4
  · conv => whnf
    repeat (first | (refine br.yes ?_; conv => whnf) | (refine br.no ?_; conv => whnf))
    have hk2 := ge_of_lss h3
    refine hK _ ⟨fun h => by omega, fun h => ?_⟩
    obtain ⟨x, hx1, hx2⟩ := List.any_eq_true.1 h
    obtain ⟨q, hq, rfl⟩ := List.getElem_of_mem hx1
    have := hpre q (by omega)
    simp [hq] at this
    rw [this] at hx2; cases hx2
theorem c_contP {i n c r f : Nat} {o : Bool} {xs : List (Int × Int)} {caps : List AV} {p : Int × Int → Bool} (hf : fnHas Try.prog f = true) (hp : ∀ (x : Int × Int) (K : AV → MS → Prop), K (AV.bool (p x)) m → CallLeaf Try.prog w0 f (.st [AV.int x.1, AV.int x.2] :: caps) m K)
    (hi : getE m i = some ⟨o, .ap n xs, r⟩) (hx : xs.length = n) (hn : n ≤ 1048576)
    (hK : K (AV.bool (xs.any p)) m) : CallLeaf Try.prog w0 69 [.sl i [] 2 0 n c, .fn f caps] m K := by
  refine fn_go hmix h69 ?_
  conv => whnf
  repeat (first | (refine br.yes ?_; conv => whnf) | (refine br.no ?_; conv => whnf))
  refine c_idxP hf hp hi hx hn (fun q hq => ?_)
  conv => whnf
  repeat (first | (refine br.yes ?_; conv => whnf) | (refine br.no ?_; conv => whnf))
  refine K_bool hK ?_
  rw [cmI_geq]
  cases h : xs.any p with
  | true => simp [hq.2 h]
  | false =>
    have : ¬ 0 ≤ q := fun h' => by rw [hq.1 h'] at h; cases h
    simp; omega
theorem c_arePlaces {N : Int} {i n c r : Nat} {o : Bool} {xs : List (Int × Int)} (hi : getE m i = some ⟨o, .ap n xs, r⟩) (hx : xs.length = n) (hn : n ≤ 1048576)
    (hK : K (AV.bool (decide (xs.length ≤ 20) && xs.all (plOk N))) m) : CallLeaf Try.prog w0 60 [AV.int N, .sl i [] 2 0 n c] m K := by
  have hany : (xs.any fun x => !plOk N x) = !xs.all (plOk N) := by rw [List.not_all_eq_any_not]
  refine call_keep ?_
  refine fn_go hmix h60 ?_
  conv => whnf
  repeat (first | (refine br.yes ?_; conv => whnf) | (refine br.no ?_; conv => whnf))
  rw [newK_eq]
  conv => whnf
  repeat (first | (refine br.yes ?_; conv => whnf) | (refine br.no ?_; conv => whnf))
  refine br_intro (fun h => ?_) (fun h => ?_)
  · have h20 : xs.length ≤ 20 := by rw [cmI_leq] at h; simp at h; omega
    conv => whnf
    repeat (first | (refine br.yes ?_; conv => whnf) | (refine br.no ?_; conv => whnf))
    refine c_contP (p := fun x => !plOk N x) (by kernel_rfl) (fun x K hK => c_arePl1 (a := x.1) (b := x.2) getE_last hK) (getE_left hi) hx hn ?_
    conv => whnf
    repeat (first | (refine br.yes ?_; conv => whnf) | (refine br.no ?_; conv => whnf))
    exact ⟨by simp, rfl, K_bool hK (by rw [notB_eq, hany]; simp [h20])⟩
  · have h20 : ¬ xs.length ≤ 20 := by rw [cmI_leq] at h; simp at h; omega
    conv => whnf
    repeat (first | (refine br.yes ?_; conv => whnf) | (refine br.no ?_; conv => whnf))
    exact ⟨by simp, rfl, K_bool hK (by simp [h20])⟩
/-- the cell that is covered -/
def cellI (N : Nat) (at' : Int × Int) (y x : Nat) : Nat := N * ((at'.1.toNat + y) % N) + (at'.2.toNat + x) % N
theorem cellI_lt {N y x : Nat} {at' : Int × Int} (h : 0 < N) : cellI N at' y x < N * N := by
  unfold cellI
  have h1 := Nat.mod_lt (at'.1.toNat + y) h
  have h2 := Nat.mod_lt (at'.2.toNat + x) h
  have h3 : N * ((at'.1.toNat + y) % N + 1) ≤ N * N := Nat.mul_le_mul_left N h1
  rw [Nat.mul_add] at h3
  omega
theorem pl_nat {N : Nat} {a b : Int} (h0 : 0 < N) (hN : N ≤ 8) (h : plOk N (a, b) = true) : ∃ p q : Nat, a = p ∧ b = q ∧ p < N ∧ q < N := by
  unfold plOk at h
  rw [sub_one h0 (by omega)] at h
  simp only [inR, Bool.and_eq_true, decide_eq_true_eq] at h
  exact ⟨a.toNat, b.toNat, by omega, by omega, by omega, by omega⟩
theorem c_cellAt {N p q y x : Nat} (h0 : 0 < N) (hN : N ≤ 8) (hp : p < N) (hq : q < N) (hy : y ≤ 64) (hx : x ≤ 64) (hK : K (AV.int (cellI N ((p : Int), (q : Int)) y x : Nat)) m) : CallLeaf Try.prog w0 61 [AV.int N, .st [AV.int p, AV.int q], AV.int y, AV.int x] m K := call_nil rfl fun w0 => by
  have hNi : (N : Int) ≠ 0 := by omega
  have hm : ∀ a : Nat, a ≤ 1000 → arI .rem .i64 (arI .add .i64 (arI .rem .i64 (a : Int) (N : Int)) (N : Int)) (N : Int) = ((a % N : Nat) : Int) := fun a ha => by
    have := Nat.mod_lt a h0
    rw [rem_nat, add_nat (by omega) (by omega), rem_nat]
    simp
  have h1 := Nat.mod_lt (p + y) h0
  have h2 := Nat.mod_lt (q + x) h0
  have h3 : N * ((p + y) % N) ≤ 8 * 8 := Nat.mul_le_mul hN (by omega)
  refine fn_go hmix h61 ?_
  conv => whnf
  repeat (first | (refine br.yes ?_; conv => whnf) | (refine br.no ?_; conv => whnf))
  rw [add_nat (by omega) (by omega)]
  refine q_keep (AV.int ((p + y) % N : Nat)) (fun K' h => c54 hNi (by rw [hm _ (by omega)]; exact h)) ?_
  conv => whnf
  repeat (first | (refine br.yes ?_; conv => whnf) | (refine br.no ?_; conv => whnf))
  rw [add_nat (by omega) (by omega), mul_nat (by omega) (by omega)]
  refine q_keep (AV.int ((q + x) % N : Nat)) (fun K' h => c54 hNi (by rw [hm _ (by omega)]; exact h)) ?_
  conv => whnf
  repeat (first | (refine br.yes ?_; conv => whnf) | (refine br.no ?_; conv => whnf))
  rw [add_nat (by omega) (by omega)]
  exact ⟨rfl, hK⟩
def covSet (out : List Int) (k : Nat) : List Int := out.set k (arI .add .i64 (out.getD k 0) 1)
/-- a place's cells, so many -/
def covP (N M : Nat) (at' : Int × Int) (out : List Int) : Nat → List Int
  | 0 => out
  | t + 1 => covSet (covP N M at' out t) (cellI N at' (t / M) (t % M))
def covA (N M : Nat) (xs : List (Int × Int)) : Nat → List Int
  | 0 => List.replicate (N * N) 0
  | p + 1 => covP N M (xs.getD p (0, 0)) (covA N M xs p) (M * M)
theorem covP_length {N M : Nat} {at' : Int × Int} {out : List Int} (t : Nat) : (covP N M at' out t).length = out.length := by
  induction t with
  | zero => rfl
  | succ t ih => simp only [covP, covSet, List.length_set]; exact ih
theorem covA_length {N M : Nat} {xs : List (Int × Int)} (p : Nat) : (covA N M xs p).length = N * N := by
  induction p with
  | zero => simp [covA]
  | succ p ih => simp only [covA]; rw [covP_length]; exact ih
def covOk (n k : Int) (xs : List (Int × Int)) : Bool := (isSide n && isSide k && decide (k ≤ n)) && (decide (xs.length ≤ 20) && xs.all (plOk n))
def covL (n k : Int) (xs : List (Int × Int)) : List Int := covA n.toNat k.toNat xs xs.length
theorem covL_length {N : Nat} {k : Int} {xs : List (Int × Int)} : (covL N k xs).length = N * N := by unfold covL; rw [covA_length]; simp
theorem cov_place {n : Int} {xs : List (Int × Int)} {p : Nat} (h : xs.all (plOk n) = true) (hp : p < xs.length) : plOk n (xs.getD p (0, 0)) = true := by
  rw [List.all_eq_true] at h
  have := h xs[p] (List.getElem_mem hp)
  simpa [hp] using this
theorem cov_bad {n k : Int} {xs : List (Int × Int)} {p : Nat} (hp : p < xs.length) (h : plOk n (xs.getD p (0, 0)) = false) : covOk n k xs = false := by
  have : xs.all (plOk n) = false := by
    rw [List.all_eq_false]
    exact ⟨xs[p], List.getElem_mem hp, by simpa [hp] using h⟩
  simp [covOk, this]
theorem cov_good {n k : Int} {xs : List (Int × Int)} (h1 : isSide n = true) (h2 : isSide k = true) (h3 : k ≤ n) (h4 : xs.length ≤ 20) (h5 : ∀ p, p < xs.length → plOk n (xs.getD p (0, 0)) = true) : covOk n k xs = true := by
  have : xs.all (plOk n) = true := by
    rw [List.all_eq_true]
    intro x hx
    obtain ⟨k, hk, rfl⟩ := List.getElem_of_mem hx
    have := h5 k hk
    simpa [hk] using this
  simp [covOk, h1, h2, h3, h4, this]
set_option maxRecDepth 20000 in
set_option maxHeartbeats 3200000 in
theorem rspec_Cov {n k : Int} {l c : Nat} {xs : List (Int × Int)} (hx : xs.length = l) (hl : l ≤ 1048576) (k1 : covOk n k xs = false → ∀ m, K (.tup [nilS 1, AV.int 2]) m)
    (k2 : ∀ N : Nat, n = N → covOk n k xs = true → K (.tup [.sl 1 [] 1 0 (N * N) (N * N), AV.int 0]) [⟨false, .ap l xs, 0⟩, ⟨true, .ai (N * N) (covL n k xs), N * N⟩]) : CallLeaf Try.prog w0 33 [AV.int n, AV.int k, .sl 0 [] 2 0 l c] [⟨false, .ap l xs, 0⟩] K := by
  refine fn_go hmix h33 ?_
  conv => whnf
  repeat (first | (refine br.yes ?_; conv => whnf) | (refine br.no ?_; conv => whnf))
  refine c44 ?_
  conv => whnf
  repeat (first | (refine br.yes ?_; conv => whnf) | (refine br.no ?_; conv => whnf))
  refine br_intro (fun h => ?_) (fun h => ?_)
  · have k1 := k1 (by rw [notB_eq] at h; simp at h; simp [covOk, h])
    conv => whnf
    repeat (first | (refine br.yes ?_; conv => whnf) | (refine br.no ?_; conv => whnf))
    exact k1 _
  conv => whnf
  repeat (first | (refine br.yes ?_; conv => whnf) | (refine br.no ?_; conv => whnf))
  refine c44 ?_
  conv => whnf
  repeat (first | (refine br.yes ?_; conv => whnf) | (refine br.no ?_; conv => whnf))
  refine br_intro (fun h2 => ?_) (fun h2 => ?_)
  · have k1 := k1 (by rw [notB_eq] at h2; simp at h2; simp [covOk, h2])
    conv => whnf
    repeat (first | (refine br.yes ?_; conv => whnf) | (refine br.no ?_; conv => whnf))
    exact k1 _
  conv => whnf
  repeat (first | (refine br.yes ?_; conv => whnf) | (refine br.no ?_; conv => whnf))
  refine br_intro (fun h3 => ?_) (fun h3 => ?_)
  · have k1 := k1 (by rw [cmI_gtr] at h3; simp at h3; simp [covOk, show ¬ k ≤ n by omega])
    conv => whnf
    repeat (first | (refine br.yes ?_; conv => whnf) | (refine br.no ?_; conv => whnf))
    exact k1 _
  conv => whnf
  repeat (first | (refine br.yes ?_; conv => whnf) | (refine br.no ?_; conv => whnf))
  refine br_intro (fun h4 => ?_) (fun h4 => ?_)
  · have k1 := k1 (by rw [cmI_gtr] at h4; simp at h4; simp [covOk, show ¬ xs.length ≤ 20 by omega])
    conv => whnf
    repeat (first | (refine br.yes ?_; conv => whnf) | (refine br.no ?_; conv => whnf))
    exact k1 _
  have q1 : isSide n = true := by rw [notB_eq] at h; simpa using h
  have q2 : isSide k = true := by rw [notB_eq] at h2; simpa using h2
  have q3 : k ≤ n := by rw [cmI_gtr] at h3; simp at h3; omega
  have q4 : xs.length ≤ 20 := by rw [cmI_gtr] at h4; simp at h4; omega
  obtain ⟨N, rfl, hN8, hN0⟩ := side_nat q1
  obtain ⟨M, rfl, hM8, hM0⟩ := side_nat q2
  have hMN : M ≤ N := by omega
  have hNN := sq_le hN8
  have hMM := sq_le hM8
  have k2 := k2 N rfl
  unfold covL at k2
  simp only [Int.toNat_natCast] at k2
  conv => whnf
  repeat (first | (refine br.yes ?_; conv => whnf) | (refine br.no ?_; conv => whnf))
  rw [mul_nat (by omega) (by omega)]
  refine ⟨side_in ⟨rfl, by omega, by omega⟩, ?_⟩
  conv => whnf
  repeat (first | (refine br.yes ?_; conv => whnf) | (refine br.no ?_; conv => whnf))
  rw [toN_nat, mulN_i]
  refine loop_opq l (fun p ts m => m = [⟨false, .ap l xs, 0⟩, ⟨true, .ai (N * N) (covA N M xs p), N * N⟩] ∧ ts = [AV.int N, AV.int M, .sl 0 [] 2 0 l c, .junk, .junk, .junk, nilS 1, AV.int 0, .sl 1 [] 1 0 (N * N) (N * N), AV.int p, .junk, .junk, .junk, .junk, .junk, .junk, .junk, .junk, .junk, .junk, .junk, .junk, .junk, .junk, .junk, .junk, .junk, .junk, .junk, .junk, .junk, .junk, .junk, .junk, .junk, .junk, .junk, .junk, .junk, .junk, .junk, .junk, .junk, .junk, .junk, .junk, .junk, .junk, .junk, .junk, .junk, .junk, .junk, .junk, .junk, .junk, .junk, .junk, .junk, .junk, .junk, .junk, .junk, .junk, .junk, .junk, .junk, .junk, .junk, .junk, .junk, .junk, .junk, .junk, .junk, .junk, .junk, .junk, .junk, .junk, .junk, .junk, .junk, .junk] ∧ ∀ i, i < p → plOk N (xs.getD i (0, 0)) = true) _ _ ?hw (.inl rfl) ⟨rfl, rfl, fun i hi => by omega⟩ ?_
  case hw =>
    repeat (first | exact weak_nil | refine weak_same ?_ | refine weak_junk ?_)
  rintro p hp ts m' ⟨rfl, rfl, hpre⟩ R hR K0 n0 r0 e0
  conv => whnf
  repeat (first | (refine br.yes ?_; conv => whnf) | (refine br.no ?_; conv => whnf))
  refine br_intro (fun g1 => ?_) (fun g1 => ?_)
  · have hp1 := lt_of_lss g1
    conv => whnf
    repeat (first | (refine br.yes ?_; conv => whnf) | (refine br.no ?_; conv => whnf))
    refine ⟨side_in ⟨by omega, by omega⟩, ?_⟩
    conv => whnf
    repeat (first | (refine br.yes ?_; conv => whnf) | (refine br.no ?_; conv => whnf))
    refine ⟨side_in (at_lt hp1), ?_⟩
    rw [nth_at]
    obtain ⟨P, hP⟩ : ∃ P, P = xs.getD p (0, 0) := ⟨_, rfl⟩
    rw [← hP]
    conv => whnf
    repeat (first | (refine br.yes ?_; conv => whnf) | (refine br.no ?_; conv => whnf))
    refine c_l08Place ?_
    conv => whnf
    repeat (first | (refine br.yes ?_; conv => whnf) | (refine br.no ?_; conv => whnf))
    refine br_intro (fun g2 => ?_) (fun g2 => ?_)
    · have k1 := k1 (cov_bad (p := p) (by omega) (by rw [notB_eq, hP] at g2; simpa using g2))
      conv => whnf
      repeat (first | (refine br.yes ?_; conv => whnf) | (refine br.no ?_; conv => whnf))
      refine r0 _ _ ?_
      conv => whnf
      repeat (first | (refine br.yes ?_; conv => whnf) | (refine br.no ?_; conv => whnf))
      exact k1 _
    have hpl : plOk N P = true := by rw [notB_eq] at g2; simpa using g2
    obtain ⟨pr, pc, hpr, hpc, hr8, hc8⟩ := pl_nat (a := P.1) (b := P.2) hN0 hN8 hpl
    have hcl : ∀ y x, cellI N P y x = N * ((pr + y) % N) + (pc + x) % N := fun y x => by unfold cellI; rw [hpr, hpc]; simp
    obtain ⟨out, hout⟩ : ∃ out, out = covA N M xs p := ⟨_, rfl⟩
    have holen : out.length = N * N := by rw [hout]; exact covA_length _
    rw [← hout]
    conv => whnf
    repeat (first | (refine br.yes ?_; conv => whnf) | (refine br.no ?_; conv => whnf))
    refine loop_opq M (fun y ts m => m = [⟨false, .ap l xs, 0⟩, ⟨true, .ai (N * N) (covP N M P out (M * y)), N * N⟩] ∧ ts = [AV.int N, AV.int M, .sl 0 [] 2 0 l c, .junk, .junk, .junk, nilS 1, AV.int 0, .sl 1 [] 1 0 (N * N) (N * N), AV.int p, AV.int y, .junk, .junk, .junk, .junk, .junk, .junk, .junk, .junk, .junk, .junk, .junk, .junk, .junk, .junk, .junk, .junk, .junk, .junk, .junk, .junk, .junk, .junk, .junk, .junk, .junk, .junk, .junk, .junk, .junk, .junk, .junk, .junk, .junk, .junk, .junk, .junk, .junk, .junk, .junk, .junk, .junk, .junk, .junk, .junk, .junk, .junk, .junk, .junk, .junk, .junk, .junk, .junk, .junk, .junk, .junk, .junk, .junk, .junk, .junk, .junk, .junk, .junk, .junk, .junk, .junk, .junk, .junk, .junk, .junk, .junk, .junk, .junk, .junk]) _ _ ?hw2 (.inl rfl) ⟨rfl, rfl⟩ ?_
    case hw2 =>
      repeat (first | exact weak_nil | refine weak_same ?_ | refine weak_junk ?_)
    rintro y hy ts m' ⟨rfl, rfl⟩ R2 hR2 K1 n1 r1 e1'
    conv => whnf
    repeat (first | (refine br.yes ?_; conv => whnf) | (refine br.no ?_; conv => whnf))
    refine br_intro (fun g3 => ?_) (fun g3 => ?_)
    · have hy1 := lt_of_lss g3
      conv => whnf
      repeat (first | (refine br.yes ?_; conv => whnf) | (refine br.no ?_; conv => whnf))
      refine loop_opq M (fun x ts m => m = [⟨false, .ap l xs, 0⟩, ⟨true, .ai (N * N) (covP N M P out (M * y + x)), N * N⟩] ∧ ts = [AV.int N, AV.int M, .sl 0 [] 2 0 l c, .junk, .junk, .junk, nilS 1, AV.int 0, .sl 1 [] 1 0 (N * N) (N * N), AV.int p, AV.int y, AV.int x, .junk, .junk, .junk, .junk, .junk, .junk, .junk, .junk, .junk, .junk, .junk, .junk, .junk, .junk, .junk, .junk, .junk, .junk, .junk, .junk, .junk, .junk, .junk, .junk, .junk, .junk, .junk, .junk, .junk, .junk, .junk, .junk, .junk, .junk, .junk, .junk, .junk, .junk, .junk, .junk, .junk, .junk, .junk, .junk, .junk, .junk, .junk, .junk, .junk, .junk, .junk, .junk, .junk, .junk, .junk, .junk, .junk, .junk, .junk, .junk, .junk, .junk, .junk, .junk, .junk, .junk, .junk, .junk, .junk, .junk, .junk, .junk]) _ _ ?hw3 (.inl rfl) ⟨rfl, rfl⟩ ?_
      case hw3 =>
        repeat (first | exact weak_nil | refine weak_same ?_ | refine weak_junk ?_)
      rintro x hx ts m' ⟨rfl, rfl⟩ R3 hR3 K2 n2 r2 e2'
      conv => whnf
      repeat (first | (refine br.yes ?_; conv => whnf) | (refine br.no ?_; conv => whnf))
      refine br_intro (fun g4 => ?_) (fun g4 => ?_)
      · have hx1 := lt_of_lss g4
        have hNi : (N : Int) ≠ 0 := by omega
        have hstep : covP N M P out (M * y + x + 1) = covSet (covP N M P out (M * y + x)) (cellI N P y x) := by
          simp only [covP]
          rw [Nat.mul_add_div (by omega), Nat.mul_add_mod, Nat.mod_eq_of_lt hx1, Nat.div_eq_of_lt hx1, Nat.add_zero]
        have hci := cellI_lt (N := N) (y := y) (x := x) (at' := P) hN0
        have e1 : arI .add .i64 P.1 (y : Int) = ((pr + y : Nat) : Int) := by rw [hpr]; exact add_nat (by omega) (by omega)
        have e2 : arI .rem .i64 ((pr + y : Nat) : Int) (N : Int) = (((pr + y) % N : Nat) : Int) := rem_nat _ _
        have m1 := Nat.mod_lt (pr + y) hN0
        have m2 := Nat.mod_lt (pc + x) hN0
        have m3 : N * ((pr + y) % N) ≤ 8 * 8 := Nat.mul_le_mul hN8 (by omega)
        have e3 : arI .mul .i64 (N : Int) (((pr + y) % N : Nat) : Int) = ((N * ((pr + y) % N) : Nat) : Int) := mul_nat (by omega) (by omega)
        have e4 : arI .add .i64 P.2 (x : Int) = ((pc + x : Nat) : Int) := by rw [hpc]; exact add_nat (by omega) (by omega)
        have e5 : arI .rem .i64 ((pc + x : Nat) : Int) (N : Int) = (((pc + x) % N : Nat) : Int) := rem_nat _ _
        have e6 : arI .add .i64 ((N * ((pr + y) % N) : Nat) : Int) (((pc + x) % N : Nat) : Int) = ((cellI N P y x : Nat) : Int) := by rw [hcl]; exact add_nat (by omega) (by omega)
        obtain ⟨ci, hce⟩ : ∃ ci, ci = cellI N P y x := ⟨_, rfl⟩
        rw [← hce] at hstep hci e6
        conv => whnf
        repeat (first | (refine br.yes ?_; conv => whnf) | (refine br.no ?_; conv => whnf))
        refine ⟨side_in ⟨by omega, by omega⟩, ?_⟩
        conv => whnf
        repeat (first | (refine br.yes ?_; conv => whnf) | (refine br.no ?_; conv => whnf))
        refine ⟨side_in (at_lt hp1), ?_⟩
        rw [nth_at, ← hP]
        conv => whnf
        repeat (first | (refine br.yes ?_; conv => whnf) | (refine br.no ?_; conv => whnf))
        refine ⟨side_in hNi, ?_⟩
        rw [e1, e2]
        conv => whnf
        repeat (first | (refine br.yes ?_; conv => whnf) | (refine br.no ?_; conv => whnf))
        refine ⟨side_in ⟨by omega, by omega⟩, ?_⟩
        conv => whnf
        repeat (first | (refine br.yes ?_; conv => whnf) | (refine br.no ?_; conv => whnf))
        refine ⟨side_in (at_lt hp1), ?_⟩
        rw [nth_at, ← hP]
        conv => whnf
        repeat (first | (refine br.yes ?_; conv => whnf) | (refine br.no ?_; conv => whnf))
        refine ⟨side_in hNi, ?_⟩
        rw [e4, e5, e3]
        conv => whnf
        repeat (first | (refine br.yes ?_; conv => whnf) | (refine br.no ?_; conv => whnf))
        rw [e6]
        refine ⟨side_in ⟨by omega, by omega⟩, ?_⟩
        conv => whnf
        repeat (first | (refine br.yes ?_; conv => whnf) | (refine br.no ?_; conv => whnf))
        refine ⟨side_in (at_lt hci), ?_⟩
        rw [nth_at]
        conv => whnf
        repeat (first | (refine br.yes ?_; conv => whnf) | (refine br.no ?_; conv => whnf))
        refine ⟨side_in ⟨by omega, by omega⟩, ?_⟩
        conv => whnf
        repeat (first | (refine br.yes ?_; conv => whnf) | (refine br.no ?_; conv => whnf))
        refine ⟨side_in (at_lt hci), ?_⟩
        conv => whnf
        repeat (first | (refine br.yes ?_; conv => whnf) | (refine br.no ?_; conv => whnf))
        rw [upd_at, add_one (k := x) (by omega)]
        refine n2 _ _ (hR3 hx1 _ _ _ _ ?hw4 (.inl rfl) ⟨by rw [← Nat.add_assoc, hstep] <;> rfl, rfl⟩)
        case hw4 =>
          repeat (first | exact weak_nil | refine weak_same ?_ | refine weak_junk ?_)
      · have hx2 : x = M := by have := ge_of_lss g4; omega
        subst hx2
        conv => whnf
        repeat (first | (refine br.yes ?_; conv => whnf) | (refine br.no ?_; conv => whnf))
        refine e2' _ _ _ ?_
        conv => whnf
        repeat (first | (refine br.yes ?_; conv => whnf) | (refine br.no ?_; conv => whnf))
        rw [add_one (by omega)]
        refine n1 _ _ (hR2 hy1 _ _ _ _ ?hw5 (.inl rfl) ⟨by rw [Nat.mul_add, Nat.mul_one] <;> rfl, rfl⟩)
        case hw5 =>
          repeat (first | exact weak_nil | refine weak_same ?_ | refine weak_junk ?_)
    · have hy2 : y = M := by have := ge_of_lss g3; omega
      subst hy2
      conv => whnf
      repeat (first | (refine br.yes ?_; conv => whnf) | (refine br.no ?_; conv => whnf))
      refine e1' _ _ _ ?_
      conv => whnf
      repeat (first | (refine br.yes ?_; conv => whnf) | (refine br.no ?_; conv => whnf))
      rw [add_one (by omega)]
      refine n0 _ _ (hR hp1 _ _ _ _ ?hw6 (.inl rfl) ⟨by simp only [covA]; rw [← hP, ← hout] <;> rfl, rfl, fun i hi => ?_⟩)
      case hw6 =>
        repeat (first | exact weak_nil | refine weak_same ?_ | refine weak_junk ?_)
      rcases Nat.lt_or_ge i p with hlt | hge
      · exact hpre i hlt
      · have : i = p := by omega
        subst this; rw [← hP]; exact hpl
  · have hp2 : p = l := by have := ge_of_lss g1; omega
    subst hp2
    have hg := cov_good (xs := xs) q1 q2 q3 q4 (fun p hp => hpre p (by omega))
    conv => whnf
    repeat (first | (refine br.yes ?_; conv => whnf) | (refine br.no ?_; conv => whnf))
    refine e0 _ _ _ ?_
    conv => whnf
    repeat (first | (refine br.yes ?_; conv => whnf) | (refine br.no ?_; conv => whnf))
    rw [hx] at k2
    exact k2 hg
end
end Go.Proofs.Ytfkbgfpidolhhaa
