/- Contracts of functions, by a walk each. -/
import Derived.Test.YtfkbgfpidolhhaaConR
namespace Go.Proofs.Ytfkbgfpidolhhaa
open Go Go.Fw
section
variable {w0 : World} {m : MS} {K : AV → MS → Prop}
/-! heights unwrapped by rows -/
def unwV (xs : List Int) (N : Nat) (pre : List Int) (k : Nat) : Int :=
  if k = 0 then xs.getD 0 0 else arI .add .i64 (pre.getD (if k % N = 0 then k - N else k - 1) 0) (less (xs.getD (if k % N = 0 then k - N else k - 1) 0) (xs.getD k 0))
def unwTo (xs : List Int) (N : Nat) : Nat → List Int
  | 0 => []
  | k + 1 => unwTo xs N k ++ [unwV xs N (unwTo xs N k) k]
theorem unwTo_length (xs : List Int) (N : Nat) : ∀ k, (unwTo xs N k).length = k
  | 0 => rfl
  | k + 1 => by simp [unwTo, unwTo_length xs N k]
theorem unwV_0 {xs pre : List Int} {N : Nat} : unwV xs N pre 0 = xs.getD 0 0 := by simp [unwV]
theorem unwV_row {xs pre : List Int} {N k : Nat} (h0 : k ≠ 0) (h : k % N = 0) : unwV xs N pre k = arI .add .i64 (pre.getD (k - N) 0) (less (xs.getD (k - N) 0) (xs.getD k 0)) := by simp [unwV, h0, h]
theorem unwV_in {xs pre : List Int} {N k : Nat} (h0 : k ≠ 0) (h : k % N ≠ 0) : unwV xs N pre k = arI .add .i64 (pre.getD (k - 1) 0) (less (xs.getD (k - 1) 0) (xs.getD k 0)) := by simp [unwV, h0, h]
theorem rem_nat (a b : Nat) : arI .rem .i64 (a : Int) (b : Int) = ((a % b : Nat) : Int) := by rw [arI_rem]; exact (Int.ofNat_tmod a b).symm
theorem sub_nat {a b : Nat} (hb : b ≤ a) (ha : a ≤ 1048576) : arI .sub .i64 (a : Int) (b : Int) = ((a - b : Nat) : Int) := by
  rw [arI_sub, wrap_fits (by omega) (by omega)]; omega
theorem less_bound (a b : Int) : -32 ≤ less a b ∧ less a b < 32 := by
  unfold less
  generalize arI .add .i64 (arI .sub .i64 b a) 32 = X
  have h1 := Int.tmod_lt_of_pos X (show (0 : Int) < 64 by decide)
  have h2 := Int.lt_tmod_of_pos X (show (0 : Int) < 64 by decide)
  rw [arI_rem X, arI_add, wrap_fits (by omega) (by omega), arI_rem, arI_sub]
  have h3 := Int.tmod_lt_of_pos (X.tmod 64 + 64) (show (0 : Int) < 64 by decide)
  have h4 : 0 ≤ (X.tmod 64 + 64).tmod 64 := Int.tmod_nonneg _ (by omega)
  rw [wrap_fits (by omega) (by omega)]
  omega
theorem parts_at {xs : List Int} (h : parts xs = true) (k : Nat) : 0 ≤ xs.getD k 0 ∧ xs.getD k 0 ≤ 63 := by
  by_cases hk : k < xs.length
  · unfold parts at h
    rw [List.all_eq_true] at h
    have := h (xs[k]) (List.getElem_mem hk)
    simp only [inR, Bool.and_eq_true, decide_eq_true_eq] at this
    simpa [hk] using this
  · simp [Nat.le_of_not_lt hk]
theorem prev_lt {N k : Nat} (hN : 0 < N) (h0 : k ≠ 0) : (if k % N = 0 then k - N else k - 1) < k := by split <;> omega
theorem unw_bound {xs : List Int} {N : Nat} (hp : parts xs = true) (hN : 0 < N) : ∀ k : Nat, k ≤ 64 → ∀ p : Nat, p < k → -(63 + 32 * (p : Int)) ≤ (unwTo xs N k).getD p 0 ∧ (unwTo xs N k).getD p 0 ≤ 63 + 32 * (p : Int) := by
  intro k
  induction k with
  | zero => intro _ p hp; omega
  | succ k ih =>
    intro hk p hpk
    have ih := ih (by omega)
    rcases Nat.lt_or_ge p k with h | h
    · have e : (unwTo xs N (k + 1)).getD p 0 = (unwTo xs N k).getD p 0 := by
        simp only [unwTo, List.getD_eq_getElem?_getD]
        rw [List.getElem?_append_left (by rw [unwTo_length]; exact h)]
      rw [e]; exact ih p h
    · have : p = k := by omega
      subst this
      have e : (unwTo xs N (p + 1)).getD p 0 = unwV xs N (unwTo xs N p) p := by
        simp only [unwTo, List.getD_eq_getElem?_getD]
        rw [List.getElem?_append_right (by rw [unwTo_length]; exact Nat.le_refl _), unwTo_length]
        simp
      rw [e]
      by_cases h0 : p = 0
      · subst h0
        rw [unwV_0]
        have := parts_at hp 0
        omega
      · have hlt := prev_lt hN h0
        unfold unwV
        rw [if_neg h0]
        generalize (if p % N = 0 then p - N else p - 1) = f at hlt ⊢
        have b1 := ih f hlt
        have b2 := less_bound (xs.getD f 0) (xs.getD p 0)
        rw [arI_add, wrap_fits (by omega) (by omega)]
        omega
def unws (N : Int) (xs : List Int) : List Int := unwTo xs N.toNat (N.toNat * N.toNat)
theorem rcode_parts {N : Int} {xs : List Int} (h : rcode N xs = 0) : parts xs = true := by
  unfold rcode at h
  cases h2 : isMap N xs with
  | false => rw [h2] at h; simp at h
  | true =>
    rw [h2] at h
    cases h3 : parts xs with
    | true => rfl
    | false => rw [h3] at h; simp at h
theorem unws_length {N : Int} {xs : List Int} {n : Nat} (hx : xs.length = n) (h : rcode N xs = 0) : (unws N xs).length = n := by
  obtain ⟨M, rfl, _, _, hl⟩ := map_square (rcode_map h)
  unfold unws
  rw [unwTo_length]
  simp only [Int.toNat_natCast]
  omega
theorem unws_heights {N : Int} {xs : List Int} (h : rcode N xs = 0) : heights (unws N xs) = true := by
  obtain ⟨M, rfl, h8, h0, hl⟩ := map_square (rcode_map h)
  have hMM : M * M ≤ 8 * 8 := Nat.mul_le_mul h8 h8
  unfold unws
  simp only [Int.toNat_natCast]
  refine all_from fun k hk => ?_
  rw [unwTo_length] at hk
  have := unw_bound (rcode_parts h) h0 (M * M) (by omega) k hk
  simp only [inR, Bool.and_eq_true, decide_eq_true_eq]
  omega
theorem q_keepS {f : Nat} {args : List AV} {K : AV → Prop} (v : AV) (h : ∀ (m : MS) (K' : AV → MS → Prop), K' v m → CallLeaf Try.prog w0 f args m K') (hK : K v) : QLeafS Try.prog w0 f args m K :=
  ⟨v, fun x => h _ _ ⟨rfl, rfl⟩, hK⟩
theorem c36_bad {N : Int} {i n c r : Nat} {o : Bool} {xs : List Int} (hi : getE m i = some ⟨o, .ai n xs, r⟩) (hx : xs.length = n) (hn : n ≤ 1048576) (hno : rcode N xs ≠ 0)
    (hK : K (.tup [nilS 1, AV.int (rcode N xs)]) m) : CallLeaf Try.prog w0 36 [AV.int N, .sl i [] 1 0 n c] m K := by
  refine fn_go hmix h36 ?_
  conv => whnf
  repeat (first | (refine br.yes ?_; conv => whnf) | (refine br.no ?_; conv => whnf))
  refine c55 hi hx (by omega) ?_
  conv => whnf
  repeat (first | (refine br.yes ?_; conv => whnf) | (refine br.no ?_; conv => whnf))
  refine br_true (by rw [cmI_neq]; simpa using hno) ?_
  conv => whnf
  repeat (first | (refine br.yes ?_; conv => whnf) | (refine br.no ?_; conv => whnf))
  exact hK
theorem c37_bad {N : Int} {i n c r : Nat} {o : Bool} {xs : List Int} (hi : getE m i = some ⟨o, .ai n xs, r⟩) (hx : xs.length = n) (hn : n ≤ 1048576) (hno : rcode N xs ≠ 0)
    (hK : K (.tup [nilS 1, AV.int (rcode N xs)]) m) : CallLeaf Try.prog w0 37 [AV.int N, .sl i [] 1 0 n c] m K := by
  refine fn_go hmix h37 ?_
  conv => whnf
  repeat (first | (refine br.yes ?_; conv => whnf) | (refine br.no ?_; conv => whnf))
  refine c56 hi hx (by omega) ?_
  conv => whnf
  repeat (first | (refine br.yes ?_; conv => whnf) | (refine br.no ?_; conv => whnf))
  refine br_true (by rw [cmI_neq]; simpa using hno) ?_
  conv => whnf
  repeat (first | (refine br.yes ?_; conv => whnf) | (refine br.no ?_; conv => whnf))
  exact hK
set_option maxRecDepth 20000 in
set_option maxHeartbeats 1600000 in
theorem c36_v {N : Int} {n c : Nat} {xs : List Int} (hx : xs.length = n) (hn : n ≤ 1048576) (hok : rcode N xs = 0)
    (hK : ∀ cap : Nat, K (.tup [.sl 1 [] 1 0 (unws N xs).length cap, AV.int 0]) [⟨false, .ai n xs, 0⟩, ⟨true, .ai (unws N xs).length (unws N xs), cap * 1⟩]) : CallLeaf Try.prog w0 36 [AV.int N, .sl 0 [] 1 0 n c] [⟨false, .ai n xs, 0⟩] K := by
  obtain ⟨M, rfl, h8, h0, hl⟩ := map_square (rcode_map hok)
  have hMM : M * M ≤ 8 * 8 := Nat.mul_le_mul h8 h8
  have hM1 : 0 < M * M := Nat.mul_pos h0 h0
  have e0 : nth xs (addN 0 (toN 0)) 0 = xs.getD 0 0 := by rw [nth_eq, addN_eq, toN_eq]; rfl
  refine fn_go hmix h36 ?_
  conv => whnf
  repeat (first | (refine br.yes ?_; conv => whnf) | (refine br.no ?_; conv => whnf))
  refine c55 (i := 0) rfl hx (by omega) ?_
  rw [hok]
  conv => whnf
  repeat (first | (refine br.yes ?_; conv => whnf) | (refine br.no ?_; conv => whnf))
  refine br_false (neq_self _) ?_
  conv => whnf
  repeat (first | (refine br.yes ?_; conv => whnf) | (refine br.no ?_; conv => whnf))
  refine loop_inv (M * M) (fun k ts m => ∃ cap, m = [⟨false, .ai n xs, 0⟩, ⟨true, .ai k (unwTo xs M k), cap * 1⟩] ∧ ts = [AV.int (M : Int), .sl 0 [] 1 0 n c, .junk, .junk, nilS 1, AV.int 0, AV.int 0, .sl 1 [] 1 0 k cap, AV.int k, .junk, .junk, .junk, .junk, .junk, .junk, .junk, .junk, .junk, .junk, .junk, .junk, .junk, .junk, .junk, .junk, .junk, .junk, .junk, .junk, .junk, .junk, .junk, .junk, .junk, .junk, .junk, .junk, .junk, .junk, .junk, .junk, .junk, .junk, .junk, .junk, .junk, .junk, .junk, .junk, .junk, .junk, .junk, .junk, .junk, .junk, .junk, .junk, .junk, .junk, .junk, .junk, .junk, .junk, .junk, .junk, .junk, .junk, .junk, .junk, .junk, .junk, .junk, .junk, .junk, .junk, .junk, .junk, .junk]) _ _ ?hw trim_no ⟨0, rfl, rfl⟩ ?_
  case hw =>
    repeat (first | exact weak_nil | refine weak_same ?_ | refine weak_junk ?_)
  rintro k hk ts m ⟨cap, rfl, rfl⟩ R hR
  conv => whnf
  repeat (first | (refine br.yes ?_; conv => whnf) | (refine br.no ?_; conv => whnf))
  rw [mul_nat (by omega) (by omega)]
  refine br_intro (fun h1 => ?_) (fun h1 => ?_)
  · have hk1 : k < M * M := lt_of_lss h1
    have hlen := unwTo_length xs M k
    conv => whnf
    repeat (first | (refine br.yes ?_; conv => whnf) | (refine br.no ?_; conv => whnf))
    refine br_intro (fun g1 => ?_) (fun g1 => ?_)
    · have hk0 : k = 0 := by rw [cmI_eql] at g1; simp at g1; omega
      conv => whnf
      repeat (first | (refine br.yes ?_; conv => whnf) | (refine br.no ?_; conv => whnf))
      refine ⟨side_in ⟨by omega, by omega⟩, ?_⟩
      conv => whnf
      repeat (first | (refine br.yes ?_; conv => whnf) | (refine br.no ?_; conv => whnf))
      refine ⟨side_in (show addN 0 (toN 0) < n by rw [addN_eq, toN_eq]; show 0 < n; omega), ?_⟩
      rw [e0]
      conv => whnf
      repeat (first | (refine br.yes ?_; conv => whnf) | (refine br.no ?_; conv => whnf))
      refine ⟨side_in ⟨by decide, rfl, rfl, by omega, rfl⟩, fun cap' => ?_⟩
      conv => whnf
      repeat (first | (refine br.yes ?_; conv => whnf) | (refine br.no ?_; conv => whnf))
      rw [add_one (by omega), addN_eq]
      refine hR hk1 _ _ _ [⟨false, .ai n xs, 0⟩, ⟨true, .ai (k + 1) (unwTo xs M k ++ [xs.getD 0 0]), cap' * 1⟩] ?hw2 ?tr ⟨cap', by subst hk0; rw [← unwV_0 (xs := xs) (N := M) (pre := unwTo xs M 0)] <;> rfl, rfl⟩
      case hw2 =>
        repeat (first | exact weak_nil | refine weak_same ?_ | refine weak_junk ?_)
      case tr =>
        exact .inr ⟨2, by simp, rfl, rfl, rfl⟩
    have hk0 : k ≠ 0 := by rw [cmI_eql] at g1; simp at g1; omega
    conv => whnf
    repeat (first | (refine br.yes ?_; conv => whnf) | (refine br.no ?_; conv => whnf))
    refine ⟨side_in (by omega), ?_⟩
    conv => whnf
    repeat (first | (refine br.yes ?_; conv => whnf) | (refine br.no ?_; conv => whnf))
    rw [rem_nat]
    refine br_intro (fun g2 => ?_) (fun g2 => ?_)
    · have hk2 : k % M = 0 := by rw [cmI_eql] at g2; simp only [decide_eq_true_eq] at g2; omega
      have hkM : M ≤ k := Nat.le_of_dvd (by omega) (Nat.dvd_of_mod_eq_zero hk2)
      conv => whnf
      repeat (first | (refine br.yes ?_; conv => whnf) | (refine br.no ?_; conv => whnf))
      rw [sub_nat hkM (by omega)]
      refine ⟨side_in ⟨by omega, by omega⟩, ?_⟩
      conv => whnf
      repeat (first | (refine br.yes ?_; conv => whnf) | (refine br.no ?_; conv => whnf))
      refine ⟨side_in (at_lt (by omega)), ?_⟩
      rw [nth_at]
      conv => whnf
      repeat (first | (refine br.yes ?_; conv => whnf) | (refine br.no ?_; conv => whnf))
      rw [sub_nat hkM (by omega)]
      refine ⟨side_in ⟨by omega, by omega⟩, ?_⟩
      conv => whnf
      repeat (first | (refine br.yes ?_; conv => whnf) | (refine br.no ?_; conv => whnf))
      refine ⟨side_in (at_lt (by omega)), ?_⟩
      rw [nth_at]
      conv => whnf
      repeat (first | (refine br.yes ?_; conv => whnf) | (refine br.no ?_; conv => whnf))
      refine ⟨side_in ⟨by omega, by omega⟩, ?_⟩
      conv => whnf
      repeat (first | (refine br.yes ?_; conv => whnf) | (refine br.no ?_; conv => whnf))
      refine ⟨side_in (at_lt (by omega)), ?_⟩
      rw [nth_at]
      conv => whnf
      repeat (first | (refine br.yes ?_; conv => whnf) | (refine br.no ?_; conv => whnf))
      refine q_keepS (AV.int (less (xs.getD (k - M) 0) (xs.getD k 0))) (fun m K' h => c41 h) ?_
      conv => whnf
      repeat (first | (refine br.yes ?_; conv => whnf) | (refine br.no ?_; conv => whnf))
      refine ⟨⟨_, rfl⟩, ?_⟩
      conv => whnf
      repeat (first | (refine br.yes ?_; conv => whnf) | (refine br.no ?_; conv => whnf))
      refine ⟨side_in ⟨by decide, rfl, rfl, by omega, rfl⟩, fun cap' => ?_⟩
      conv => whnf
      repeat (first | (refine br.yes ?_; conv => whnf) | (refine br.no ?_; conv => whnf))
      rw [add_one (by omega), addN_eq]
      refine hR hk1 _ _ _ [⟨false, .ai n xs, 0⟩, ⟨true, .ai (k + 1) (unwTo xs M k ++ [arI .add .i64 ((unwTo xs M k).getD (k - M) 0) (less (xs.getD (k - M) 0) (xs.getD k 0))]), cap' * 1⟩] ?hw3 ?tr3 ⟨cap', by rw [← unwV_row (xs := xs) (N := M) (pre := unwTo xs M k) hk0 hk2] <;> rfl, rfl⟩
      case hw3 =>
        repeat (first | exact weak_nil | refine weak_same ?_ | refine weak_junk ?_)
      case tr3 =>
        exact .inr ⟨2, by simp, rfl, rfl, rfl⟩
    · have hk2 : k % M ≠ 0 := by rw [cmI_eql] at g2; simp only [decide_eq_false_iff_not] at g2; omega
      conv => whnf
      repeat (first | (refine br.yes ?_; conv => whnf) | (refine br.no ?_; conv => whnf))
      rw [sub_one (by omega) (by omega)]
      refine ⟨side_in ⟨by omega, by omega⟩, ?_⟩
      conv => whnf
      repeat (first | (refine br.yes ?_; conv => whnf) | (refine br.no ?_; conv => whnf))
      refine ⟨side_in (at_lt (by omega)), ?_⟩
      rw [nth_at]
      conv => whnf
      repeat (first | (refine br.yes ?_; conv => whnf) | (refine br.no ?_; conv => whnf))
      rw [sub_one (by omega) (by omega)]
      refine ⟨side_in ⟨by omega, by omega⟩, ?_⟩
      conv => whnf
      repeat (first | (refine br.yes ?_; conv => whnf) | (refine br.no ?_; conv => whnf))
      refine ⟨side_in (at_lt (by omega)), ?_⟩
      rw [nth_at]
      conv => whnf
      repeat (first | (refine br.yes ?_; conv => whnf) | (refine br.no ?_; conv => whnf))
      refine ⟨side_in ⟨by omega, by omega⟩, ?_⟩
      conv => whnf
      repeat (first | (refine br.yes ?_; conv => whnf) | (refine br.no ?_; conv => whnf))
      refine ⟨side_in (at_lt (by omega)), ?_⟩
      rw [nth_at]
      conv => whnf
      repeat (first | (refine br.yes ?_; conv => whnf) | (refine br.no ?_; conv => whnf))
      refine q_keepS (AV.int (less (xs.getD (k - 1) 0) (xs.getD k 0))) (fun m K' h => c41 h) ?_
      conv => whnf
      repeat (first | (refine br.yes ?_; conv => whnf) | (refine br.no ?_; conv => whnf))
      refine ⟨⟨_, rfl⟩, ?_⟩
      conv => whnf
      repeat (first | (refine br.yes ?_; conv => whnf) | (refine br.no ?_; conv => whnf))
      refine ⟨side_in ⟨by decide, rfl, rfl, by omega, rfl⟩, fun cap' => ?_⟩
      conv => whnf
      repeat (first | (refine br.yes ?_; conv => whnf) | (refine br.no ?_; conv => whnf))
      rw [add_one (by omega), addN_eq]
      refine hR hk1 _ _ _ [⟨false, .ai n xs, 0⟩, ⟨true, .ai (k + 1) (unwTo xs M k ++ [arI .add .i64 ((unwTo xs M k).getD (k - 1) 0) (less (xs.getD (k - 1) 0) (xs.getD k 0))]), cap' * 1⟩] ?hw4 ?tr4 ⟨cap', by rw [← unwV_in (xs := xs) (N := M) (pre := unwTo xs M k) hk0 hk2] <;> rfl, rfl⟩
      case hw4 =>
        repeat (first | exact weak_nil | refine weak_same ?_ | refine weak_junk ?_)
      case tr4 =>
        exact .inr ⟨2, by simp, rfl, rfl, rfl⟩
  · have hk2 : k = M * M := Nat.le_antisymm hk (ge_of_lss h1)
    subst hk2
    have hK := hK cap
    unfold unws at hK
    simp only [Int.toNat_natCast, unwTo_length] at hK
    conv => whnf
    repeat (first | (refine br.yes ?_; conv => whnf) | (refine br.no ?_; conv => whnf))
    exact hK
theorem c36_g {N : Int} {i n c r : Nat} {o : Bool} {xs : List Int} (hi : getE m i = some ⟨o, .ai n xs, r⟩) (hx : xs.length = n) (hn : n ≤ 1048576) (hok : rcode N xs = 0)
    (hK : ∀ cap : Nat, K (.tup [.sl m.length [] 1 0 (unws N xs).length cap, AV.int 0]) (m ++ [⟨true, .ai (unws N xs).length (unws N xs), cap * 1⟩])) : CallLeaf Try.prog w0 36 [AV.int N, .sl i [] 1 0 n c] m K := by
  refine call_view1 (args0 := [AV.int N, .sl 0 [] 1 0 n c]) hi rfl rfl rfl fun w0 => ?_
  refine c36_v hx hn hok fun cap => ⟨_, rfl, rfl, fun e he => ?_, rfl, hK cap⟩
  simp at he; subst he; exact .inl rfl
end
end Go.Proofs.Ytfkbgfpidolhhaa
