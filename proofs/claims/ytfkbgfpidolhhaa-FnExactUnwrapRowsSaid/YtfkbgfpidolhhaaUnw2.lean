/- Contracts of functions, by a walk each. -/
import Derived.Test.YtfkbgfpidolhhaaUnw
namespace Go.Proofs.Ytfkbgfpidolhhaa
open Go Go.Fw
section
variable {w0 : World} {m : MS} {K : AV → MS → Prop}
theorem c71 {x : Int} (hK : K (AV.bool (!inR x (-100000) 100000)) m) : CallLeaf Try.prog w0 71 [AV.int x] m K := by
  refine fn_go hmix h71 ?_
  conv => whnf
  repeat (first | (refine br.yes ?_; conv => whnf) | (refine br.no ?_; conv => whnf))
  refine c42 ?_
  conv => whnf
  repeat (first | (refine br.yes ?_; conv => whnf) | (refine br.no ?_; conv => whnf))
  exact K_bool hK (notB_eq _).symm
theorem c63 {i n c r : Nat} {o : Bool} {xs : List Int} (hi : getE m i = some ⟨o, .ai n xs, r⟩) (hx : xs.length = n) (hn : n ≤ 1048576) (hok : heights xs = true)
    (hK : K (.tup [.sl i [] 1 0 n c, AV.int 0]) m) : CallLeaf Try.prog w0 63 [.sl i [] 1 0 n c] m K := by
  have hany : (xs.any fun x => !inR x (-100000) 100000) = !heights xs := by
    unfold heights
    rw [List.not_all_eq_any_not]
  refine fn_go hmix h63 ?_
  conv => whnf
  repeat (first | (refine br.yes ?_; conv => whnf) | (refine br.no ?_; conv => whnf))
  refine c50 (by kernel_rfl) (fun x K hK => c71 hK) hi hx (by omega) ?_
  conv => whnf
  repeat (first | (refine br.yes ?_; conv => whnf) | (refine br.no ?_; conv => whnf))
  refine br_false (by rw [hany, hok]; rfl) ?_
  conv => whnf
  repeat (first | (refine br.yes ?_; conv => whnf) | (refine br.no ?_; conv => whnf))
  exact hK
set_option maxRecDepth 20000 in
theorem c62_v {n c : Nat} {xs : List Int} (hx : xs.length = n) (hn : n ≤ 1048576) (hc : 0 < c)
    (hK : ∀ cap : Nat, K (.sl 1 [] 1 0 n cap) [⟨false, .ai n xs, 0⟩, ⟨true, .ai n xs, cap * 1⟩]) : CallLeaf Try.prog w0 62 [.sl 0 [] 1 0 n c] [⟨false, .ai n xs, 0⟩] K := by
  refine fn_go hmix h62 ?_
  conv => whnf
  repeat (first | (refine br.yes ?_; conv => whnf) | (refine br.no ?_; conv => whnf))
  refine ⟨side_in hc, ?_⟩
  conv => whnf
  repeat (first | (refine br.yes ?_; conv => whnf) | (refine br.no ?_; conv => whnf))
  refine ⟨side_in ⟨by decide, rfl, hx.symm ▸ rfl, by omega, rfl⟩, fun cap => ?_⟩
  conv => whnf
  repeat (first | (refine br.yes ?_; conv => whnf) | (refine br.no ?_; conv => whnf))
  have hK := hK cap
  have e : addN 0 n = n := by rw [addN_eq, Nat.zero_add]
  rw [e]
  exact hK
def halfU (xs : List Int) (N k : Nat) : List Int := unwTo xs N k ++ xs.drop k
theorem halfU_one {xs : List Int} {N : Nat} (h : 0 < xs.length) : halfU xs N 1 = xs := by
  cases xs with
  | nil => simp at h
  | cons x xs => simp [halfU, unwTo, unwV]
theorem halfU_get {xs : List Int} {N k f : Nat} (h : f < k) : (halfU xs N k).getD f 0 = (unwTo xs N k).getD f 0 := by
  unfold halfU
  simp only [List.getD_eq_getElem?_getD]
  rw [List.getElem?_append_left (by rw [unwTo_length]; exact h)]
theorem halfU_set {xs : List Int} {N k : Nat} (h : k < xs.length) : (halfU xs N k).set k (unwV xs N (unwTo xs N k) k) = halfU xs N (k + 1) := by
  unfold halfU
  rw [List.set_append_right _ _ (by rw [unwTo_length]; exact Nat.le_refl _), unwTo_length, Nat.sub_self, unwTo, List.append_assoc]
  congr 1
  rw [List.drop_eq_getElem_cons h]
  rfl
theorem halfU_all {xs : List Int} {N k : Nat} (h : xs.length = k) : halfU xs N k = unwTo xs N k := by
  unfold halfU
  rw [List.drop_eq_nil_of_le (by omega), List.append_nil]
theorem halfU_length {xs : List Int} {N k : Nat} (h : k ≤ xs.length) : (halfU xs N k).length = xs.length := by
  unfold halfU
  rw [List.length_append, unwTo_length, List.length_drop]
  omega
set_option maxRecDepth 20000 in
set_option maxHeartbeats 1600000 in
theorem c37_v {N : Int} {n c : Nat} {xs : List Int} (hx : xs.length = n) (hn : n ≤ 1048576) (hok : rcode N xs = 0) (hc : 0 < c)
    (hK : ∀ cap : Nat, K (.tup [.sl 1 [] 1 0 (unws N xs).length cap, AV.int 0]) [⟨false, .ai n xs, 0⟩, ⟨true, .ai (unws N xs).length (unws N xs), cap * 1⟩]) : CallLeaf Try.prog w0 37 [AV.int N, .sl 0 [] 1 0 n c] [⟨false, .ai n xs, 0⟩] K := by
  have hth := unws_heights hok
  obtain ⟨M, rfl, h8, h0, hl⟩ := map_square (rcode_map hok)
  have hMM : M * M ≤ 8 * 8 := Nat.mul_le_mul h8 h8
  have hM1 : 0 < M * M := Nat.mul_pos h0 h0
  refine fn_go hmix h37 ?_
  conv => whnf
  repeat (first | (refine br.yes ?_; conv => whnf) | (refine br.no ?_; conv => whnf))
  refine c56 (i := 0) rfl hx (by omega) ?_
  rw [hok]
  conv => whnf
  repeat (first | (refine br.yes ?_; conv => whnf) | (refine br.no ?_; conv => whnf))
  refine br_false (neq_self _) ?_
  conv => whnf
  repeat (first | (refine br.yes ?_; conv => whnf) | (refine br.no ?_; conv => whnf))
  refine c62_v hx hn hc (fun cap => ?_)
  conv => whnf
  repeat (first | (refine br.yes ?_; conv => whnf) | (refine br.no ?_; conv => whnf))
  refine loop_inv (M * M - 1) (fun k ts m => m = [⟨false, .ai n xs, 0⟩, ⟨true, .ai n (halfU xs M (k + 1)), cap * 1⟩] ∧ ts = [AV.int (M : Int), .sl 0 [] 1 0 n c, .junk, .junk, nilS 1, AV.int 0, AV.int 0, .sl 1 [] 1 0 n cap, AV.int (k + 1 : Nat), .junk, .junk, .junk, .junk, .junk, .junk, .junk, .junk, .junk, .junk, .junk, .junk, .junk, .junk, .junk, .junk, .junk, .junk, .junk, .junk, .junk, .junk, .junk, .junk, .junk, .junk, .junk, .junk, .junk, .junk, .junk, .junk, .junk, .junk, .junk, .junk, .junk, .junk, .junk, .junk, .junk, .junk, .junk, .junk, .junk, .junk]) _ _ ?hw trim_no ⟨by rw [halfU_one (by omega)], rfl⟩ ?_
  case hw =>
    repeat (first | exact weak_nil | refine weak_same ?_ | refine weak_junk ?_)
  rintro k hk ts m ⟨rfl, rfl⟩ R hR
  conv => whnf
  repeat (first | (refine br.yes ?_; conv => whnf) | (refine br.no ?_; conv => whnf))
  rw [mul_nat (by omega) (by omega)]
  refine br_intro (fun h1 => ?_) (fun h1 => ?_)
  · have hk1 : k + 1 < M * M := lt_of_lss h1
    have hlen := unwTo_length xs M (k + 1)
    conv => whnf
    repeat (first | (refine br.yes ?_; conv => whnf) | (refine br.no ?_; conv => whnf))
    refine ⟨side_in (by omega), ?_⟩
    conv => whnf
    repeat (first | (refine br.yes ?_; conv => whnf) | (refine br.no ?_; conv => whnf))
    rw [rem_nat]
    refine br_intro (fun g2 => ?_) (fun g2 => ?_)
    · have hk2 : (k + 1) % M = 0 := by rw [cmI_eql] at g2; simp only [decide_eq_true_eq] at g2; omega
      have hkM : M ≤ k + 1 := Nat.le_of_dvd (by omega) (Nat.dvd_of_mod_eq_zero hk2)
      conv => whnf
      repeat (first | (refine br.yes ?_; conv => whnf) | (refine br.no ?_; conv => whnf))
      rw [sub_nat hkM (by omega)]
      refine ⟨side_in ⟨by omega, by omega⟩, ?_⟩
      conv => whnf
      repeat (first | (refine br.yes ?_; conv => whnf) | (refine br.no ?_; conv => whnf))
      refine ⟨side_in (at_lt (by omega)), ?_⟩
      rw [nth_at, halfU_get (by omega)]
      conv => whnf
      repeat (first | (refine br.yes ?_; conv => whnf) | (refine br.no ?_; conv => whnf))
      refine ⟨side_in ⟨by omega, by omega⟩, ?_⟩
      conv => whnf
      repeat (first | (refine br.yes ?_; conv => whnf) | (refine br.no ?_; conv => whnf))
      refine ⟨side_in (at_lt (by omega)), ?_⟩
      rw [nth_at]
      conv => whnf
      repeat (first | (refine br.yes ?_; conv => whnf) | (refine br.no ?_; conv => whnf))
      refine ⟨side_in ⟨by omega, by omega⟩, ?_⟩
      conv => whnf
      repeat (first | (refine br.yes ?_; conv => whnf) | (refine br.no ?_; conv => whnf))
      refine ⟨side_in (at_lt (by omega)), ?_⟩
      rw [nth_at]
      conv => whnf
      repeat (first | (refine br.yes ?_; conv => whnf) | (refine br.no ?_; conv => whnf))
      refine q_keep (AV.int (less (xs.getD (k + 1 - M) 0) (xs.getD (k + 1) 0))) (fun K' h => c43 h) ?_
      conv => whnf
      repeat (first | (refine br.yes ?_; conv => whnf) | (refine br.no ?_; conv => whnf))
      refine ⟨side_in ⟨by omega, by omega⟩, ?_⟩
      conv => whnf
      repeat (first | (refine br.yes ?_; conv => whnf) | (refine br.no ?_; conv => whnf))
      refine ⟨side_in (at_lt (by omega)), ?_⟩
      conv => whnf
      repeat (first | (refine br.yes ?_; conv => whnf) | (refine br.no ?_; conv => whnf))
      rw [upd_at, add_one (by omega)]
      refine hR (by omega) _ _ _ _ ?hw3 trim_no ⟨by rw [← halfU_set (show k + 1 < xs.length by omega), unwV_row (by omega) hk2] <;> rfl, rfl⟩
      case hw3 =>
        repeat (first | exact weak_nil | refine weak_same ?_ | refine weak_junk ?_)
    · have hk2 : (k + 1) % M ≠ 0 := by rw [cmI_eql] at g2; simp only [decide_eq_false_iff_not] at g2; omega
      conv => whnf
      repeat (first | (refine br.yes ?_; conv => whnf) | (refine br.no ?_; conv => whnf))
      rw [sub_one (by omega) (by omega)]
      refine ⟨side_in ⟨by omega, by omega⟩, ?_⟩
      conv => whnf
      repeat (first | (refine br.yes ?_; conv => whnf) | (refine br.no ?_; conv => whnf))
      refine ⟨side_in (at_lt (by omega)), ?_⟩
      rw [nth_at, halfU_get (by omega)]
      conv => whnf
      repeat (first | (refine br.yes ?_; conv => whnf) | (refine br.no ?_; conv => whnf))
      refine ⟨side_in ⟨by omega, by omega⟩, ?_⟩
      conv => whnf
      repeat (first | (refine br.yes ?_; conv => whnf) | (refine br.no ?_; conv => whnf))
      refine ⟨side_in (at_lt (by omega)), ?_⟩
      rw [nth_at]
      conv => whnf
      repeat (first | (refine br.yes ?_; conv => whnf) | (refine br.no ?_; conv => whnf))
      refine ⟨side_in ⟨by omega, by omega⟩, ?_⟩
      conv => whnf
      repeat (first | (refine br.yes ?_; conv => whnf) | (refine br.no ?_; conv => whnf))
      refine ⟨side_in (at_lt (by omega)), ?_⟩
      rw [nth_at]
      conv => whnf
      repeat (first | (refine br.yes ?_; conv => whnf) | (refine br.no ?_; conv => whnf))
      refine q_keep (AV.int (less (xs.getD (k + 1 - 1) 0) (xs.getD (k + 1) 0))) (fun K' h => c43 h) ?_
      conv => whnf
      repeat (first | (refine br.yes ?_; conv => whnf) | (refine br.no ?_; conv => whnf))
      refine ⟨side_in ⟨by omega, by omega⟩, ?_⟩
      conv => whnf
      repeat (first | (refine br.yes ?_; conv => whnf) | (refine br.no ?_; conv => whnf))
      refine ⟨side_in (at_lt (by omega)), ?_⟩
      conv => whnf
      repeat (first | (refine br.yes ?_; conv => whnf) | (refine br.no ?_; conv => whnf))
      rw [upd_at, add_one (by omega)]
      refine hR (by omega) _ _ _ _ ?hw4 trim_no ⟨by rw [← halfU_set (show k + 1 < xs.length by omega), unwV_in (by omega) hk2] <;> rfl, rfl⟩
      case hw4 =>
        repeat (first | exact weak_nil | refine weak_same ?_ | refine weak_junk ?_)
  · have hk2 : k + 1 = M * M := by have := ge_of_lss h1; omega
    rw [hk2, halfU_all (by omega)]
    have hK := hK cap
    unfold unws at hK hth
    simp only [Int.toNat_natCast, unwTo_length] at hK hth
    have hnM : n = M * M := by omega
    subst hnM
    conv => whnf
    repeat (first | (refine br.yes ?_; conv => whnf) | (refine br.no ?_; conv => whnf))
    refine c63 (i := 1) rfl (unwTo_length _ _ _) (by omega) hth ?_
    conv => whnf
    repeat (first | (refine br.yes ?_; conv => whnf) | (refine br.no ?_; conv => whnf))
    exact hK
theorem c37_g {N : Int} {i n c r : Nat} {o : Bool} {xs : List Int} (hi : getE m i = some ⟨o, .ai n xs, r⟩) (hx : xs.length = n) (hn : n ≤ 1048576) (hok : rcode N xs = 0) (hc : n ≤ c)
    (hK : ∀ cap : Nat, K (.tup [.sl m.length [] 1 0 (unws N xs).length cap, AV.int 0]) (m ++ [⟨true, .ai (unws N xs).length (unws N xs), cap * 1⟩])) : CallLeaf Try.prog w0 37 [AV.int N, .sl i [] 1 0 n c] m K := by
  have h0 : 0 < c := by
    obtain ⟨M, rfl, h8, h0, hl⟩ := map_square (rcode_map hok)
    have := Nat.mul_pos h0 h0
    omega
  refine call_view1 (args0 := [AV.int N, .sl 0 [] 1 0 n c]) hi rfl rfl rfl fun w0 => ?_
  refine c37_v hx hn hok h0 fun cap => ⟨_, rfl, rfl, fun e he => ?_, rfl, hK cap⟩
  simp at he; subst he; exact .inl rfl
end
end Go.Proofs.Ytfkbgfpidolhhaa
