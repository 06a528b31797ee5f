/- Contracts of functions, by a walk each. -/
import Derived.Test.YtpcakgdagmcopaaNW
namespace Go.Proofs.Ytpcakgdagmcopaa
open Go Go.Fw
section
variable {w0 : World} {m : MS} {K : AV → MS → Prop}
set_option maxRecDepth 20000 in
theorem c_toFs {i n c r : Nat} {o : Bool} {xs : List Nat} (hi : getE m i = some ⟨o, .af n xs, r⟩) (hx : xs.length = n) (hn : n ≤ 1048576)
    (hK : K (.sl m.length [] 1 0 n n) (m ++ [⟨true, .af n xs, n⟩])) : CallLeaf Try.prog w0 8 [.sl i [] 1 0 n c] m K := call_view1 (args0 := [.sl 0 [] 1 0 n c]) hi rfl rfl rfl fun w0 => by
  refine fn_go hmix h8 ?_
  conv => whnf
  repeat (first | (refine br.yes ?_; conv => whnf) | (refine br.no ?_; conv => whnf))
  refine ⟨side_in ⟨rfl, by omega, by omega⟩, ?_⟩
  conv => whnf
  repeat (first | (refine br.yes ?_; conv => whnf) | (refine br.no ?_; conv => whnf))
  rw [toN_nat, mulN_f]
  refine loop_inv n (fun k ts m' => ∃ ys : List Nat, ys.length = n ∧ (∀ p, p < k → ys.getD p 0 = xs.getD p 0) ∧ m' = [⟨false, .af n xs, 0⟩, ⟨true, .af n ys, n⟩] ∧ ts = [.sl 0 [] 1 0 n c, .junk, nilS 1, .sl 1 [] 1 0 n n, AV.int k, .junk, .junk, .junk, .junk, .junk, .junk, .junk, .junk, .junk, .junk, .junk, .junk, .junk, .junk, .junk, .junk, .junk]) _ _ ?hw trim_no ⟨List.replicate n 0, by simp, by intro p hp; omega, rfl, rfl⟩ ?_
  case hw =>
    repeat (first | exact weak_nil | refine weak_same ?_ | refine weak_junk ?_)
  rintro k hk ts m' ⟨ys, hy, hpre, rfl, rfl⟩ R hR
  conv => whnf
  repeat (first | (refine br.yes ?_; conv => whnf) | (refine br.no ?_; conv => whnf))
  refine br_intro (fun h1 => ?_) (fun h1 => ?_)
  · conv => whnf
    repeat (first | (refine br.yes ?_; conv => whnf) | (refine br.no ?_; conv => whnf))
    have hk1 := lt_of_lss h1
    refine ⟨side_in ⟨by omega, by omega⟩, ?_⟩
    conv => whnf
    repeat (first | (refine br.yes ?_; conv => whnf) | (refine br.no ?_; conv => whnf))
    refine ⟨side_in (at_lt hk1), ?_⟩
    conv => whnf
    repeat (first | (refine br.yes ?_; conv => whnf) | (refine br.no ?_; conv => whnf))
    refine ⟨side_in ⟨by omega, by omega⟩, ?_⟩
    conv => whnf
    repeat (first | (refine br.yes ?_; conv => whnf) | (refine br.no ?_; conv => whnf))
    refine ⟨side_in (at_lt hk1), ?_⟩
    conv => whnf
    repeat (first | (refine br.yes ?_; conv => whnf) | (refine br.no ?_; conv => whnf))
    rw [add_one (by omega), nth_at, upd_at]
    refine hR hk1 _ _ _ _ ?hw2 trim_no ⟨ys.set k (xs.getD k 0), by simp [hy], fun p hp => ?_, rfl, rfl⟩
    case hw2 =>
      repeat (first | exact weak_nil | refine weak_same ?_ | refine weak_junk ?_)
    by_cases hpk : k = p
    · subst hpk; exact getD_set_self (by omega)
    · rw [getD_set_other hpk]; exact hpre p (by omega)
  · conv => whnf
    repeat (first | (refine br.yes ?_; conv => whnf) | (refine br.no ?_; conv => whnf))
    have hk2 := ge_of_lss h1
    have e : ys = xs := ext_getD (d := 0) (by omega) (fun p hp => hpre p (by omega))
    subst e
    exact ⟨_, rfl, rfl, fun e he => by simp at he; subst he; exact .inl rfl, rfl, hK⟩
theorem c_plusG {i n c r : Nat} {o : Bool} {xs : List Nat} (hi : getE m i = some ⟨o, .af n xs, r⟩) (hx : xs.length = n) (hn : n ≤ 1048576)
    (hK : ∀ cap : Nat, K (.sl m.length [] 1 0 n cap) (m ++ [⟨true, .af n (xs.map plusN), cap * 1⟩])) : CallLeaf Try.prog w0 30 [.sl i [] 1 0 n c] m K := call_view1 (args0 := [.sl 0 [] 1 0 n c]) hi rfl rfl rfl fun w0 => by
  refine c_l01PlusNumbers hx hn (fun cap => ?_)
  exact ⟨_, rfl, rfl, fun e he => by simp at he; subst he; exact .inl rfl, rfl, hK cap⟩
set_option maxRecDepth 20000 in
theorem c_plainFs1 {n n0 c r : Nat} {xs zs : List Nat} (hx : xs.length = n) (hn : n ≤ 1048576)
    (hK : K (.sl 1 [] 1 0 n c) [⟨false, .af n0 zs, 0⟩, ⟨true, .af n (xs.map plusN), r⟩]) : CallLeaf Try.prog w0 32 [.sl 1 [] 1 0 n c] [⟨false, .af n0 zs, 0⟩, ⟨true, .af n xs, r⟩] K := call_drop (by
  refine fn_go hmix h32 ?_
  conv => whnf
  repeat (first | (refine br.yes ?_; conv => whnf) | (refine br.no ?_; conv => whnf))
  refine c_plainList (i := 1) rfl hx hn ?_
  unfold setM
  conv => whnf
  repeat (first | (refine br.yes ?_; conv => whnf) | (refine br.no ?_; conv => whnf))
  exact ⟨rfl, rfl, rfl, hK⟩)
theorem nwList_length (xs : List Nat) : (nwList xs).length = xs.length := by simp [nwList]
theorem ospec_NormWeights_no {i n c r : Nat} {o : Bool} {xs : List Nat} (hi : getE m i = some ⟨o, .af n xs, r⟩) (hx : xs.length = n) (hn : n ≤ 1048576) (h : nwCode xs ≠ 0)
    (hK : ∀ cap : Nat, K (.tup [.sl m.length [] 1 0 0 cap, AV.int (nwCode xs)]) (m ++ [⟨true, .af 0 [], cap * 1⟩])) : CallLeaf Try.prog w0 17 [.sl i [] 1 0 n c] m K := call_view1 (args0 := [.sl 0 [] 1 0 n c]) hi rfl rfl rfl fun w0 => by
  refine fn_go hmix h17 ?_
  conv => whnf
  repeat (first | (refine br.yes ?_; conv => whnf) | (refine br.no ?_; conv => whnf))
  refine rspec_NormWeights hx hn (fun _ => ?_) (fun h2 => absurd h2 h)
  conv => whnf
  repeat (first | (refine br.yes ?_; conv => whnf) | (refine br.no ?_; conv => whnf))
  refine c_l01PlusNumbers0 (fun cap => ?_)
  conv => whnf
  repeat (first | (refine br.yes ?_; conv => whnf) | (refine br.no ?_; conv => whnf))
  exact ⟨_, rfl, rfl, fun e he => by simp at he; subst he; exact .inl rfl, rfl, hK cap⟩
theorem ospec_NormWeights_ok {i n c r : Nat} {o : Bool} {xs : List Nat} (hi : getE m i = some ⟨o, .af n xs, r⟩) (hx : xs.length = n) (hn : n ≤ 1048576) (h : nwCode xs = 0)
    (hK : ∀ c1 cap : Nat, K (.tup [.sl (m.length + 1) [] 1 0 n cap, AV.int 0]) (m ++ [⟨true, .af n (nwList xs), c1⟩, ⟨true, .af n ((nwList xs).map plusN), cap * 1⟩])) : CallLeaf Try.prog w0 17 [.sl i [] 1 0 n c] m K := call_view1 (args0 := [.sl 0 [] 1 0 n c]) hi rfl rfl rfl fun w0 => by
  refine fn_go hmix h17 ?_
  conv => whnf
  repeat (first | (refine br.yes ?_; conv => whnf) | (refine br.no ?_; conv => whnf))
  refine rspec_NormWeights hx hn (fun h2 => absurd h h2) (fun _ c1 => ?_)
  conv => whnf
  repeat (first | (refine br.yes ?_; conv => whnf) | (refine br.no ?_; conv => whnf))
  refine c_plusG (i := 1) rfl (by rw [nwList_length]; exact hx) hn (fun cap => ?_)
  conv => whnf
  repeat (first | (refine br.yes ?_; conv => whnf) | (refine br.no ?_; conv => whnf))
  exact ⟨_, rfl, rfl, fun e he => by simp at he; rcases he with rfl | rfl <;> exact .inl rfl, rfl, hK _ cap⟩
theorem oimpl_NormWeights_no {i n c r : Nat} {o : Bool} {xs : List Nat} (hi : getE m i = some ⟨o, .af n xs, r⟩) (hx : xs.length = n) (hn : n ≤ 1048576) (h : nwCode xs ≠ 0)
    (hK : K (.tup [nilS 1, AV.int (nwCode xs)]) m) : CallLeaf Try.prog w0 18 [.sl i [] 1 0 n c] m K := call_view0 (args0 := [.sl 0 [] 1 0 n c]) hi rfl rfl rfl fun w0 => by
  refine fn_go hmix h18 ?_
  conv => whnf
  repeat (first | (refine br.yes ?_; conv => whnf) | (refine br.no ?_; conv => whnf))
  refine rimpl_NormWeights hx hn (fun _ => ?_) (fun h2 => absurd h2 h)
  conv => whnf
  repeat (first | (refine br.yes ?_; conv => whnf) | (refine br.no ?_; conv => whnf))
  refine c_plainFs0 ?_
  conv => whnf
  repeat (first | (refine br.yes ?_; conv => whnf) | (refine br.no ?_; conv => whnf))
  exact ⟨rfl, hK⟩
theorem oimpl_NormWeights_ok {i n c r : Nat} {o : Bool} {xs : List Nat} (hi : getE m i = some ⟨o, .af n xs, r⟩) (hx : xs.length = n) (hn : n ≤ 1048576) (h : nwCode xs = 0)
    (hK : ∀ c1 cap : Nat, K (.tup [.sl m.length [] 1 0 n cap, AV.int 0]) (m ++ [⟨true, .af n ((nwList xs).map plusN), c1⟩])) : CallLeaf Try.prog w0 18 [.sl i [] 1 0 n c] m K := call_view1 (args0 := [.sl 0 [] 1 0 n c]) hi rfl rfl rfl fun w0 => by
  refine fn_go hmix h18 ?_
  conv => whnf
  repeat (first | (refine br.yes ?_; conv => whnf) | (refine br.no ?_; conv => whnf))
  refine rimpl_NormWeights hx hn (fun h2 => absurd h h2) (fun _ c1 => ?_)
  conv => whnf
  repeat (first | (refine br.yes ?_; conv => whnf) | (refine br.no ?_; conv => whnf))
  refine c_plainFs1 (by rw [nwList_length]; exact hx) hn ?_
  conv => whnf
  repeat (first | (refine br.yes ?_; conv => whnf) | (refine br.no ?_; conv => whnf))
  exact ⟨_, rfl, rfl, fun e he => by simp at he; subst he; exact .inl rfl, rfl, hK _ _⟩
set_option maxRecDepth 20000 in
set_option maxHeartbeats 1600000 in
theorem law_NormWeights_no {n c : Nat} {xs : List Nat} (hx : xs.length = n) (hn : n ≤ 1048576) (h : nwCode xs ≠ 0) (hK : ∀ m, K (AV.bool true) m) : CallLeaf Try.prog w0 6 [.sl 0 [] 1 0 n c] [⟨false, .af n xs, 0⟩] K := by
  refine fn_go hmix h6 ?_
  conv => whnf
  repeat (first | (refine br.yes ?_; conv => whnf) | (refine br.no ?_; conv => whnf))
  refine br_false (by rw [cmI_gtr]; simp; omega) ?_
  conv => whnf
  repeat (first | (refine br.yes ?_; conv => whnf) | (refine br.no ?_; conv => whnf))
  refine c_toFs (i := 0) rfl hx hn ?_
  conv => whnf
  repeat (first | (refine br.yes ?_; conv => whnf) | (refine br.no ?_; conv => whnf))
  refine ospec_NormWeights_no (i := 1) rfl hx hn h (fun cap => ?_)
  conv => whnf
  repeat (first | (refine br.yes ?_; conv => whnf) | (refine br.no ?_; conv => whnf))
  refine c_toFs (i := 0) rfl hx hn ?_
  conv => whnf
  repeat (first | (refine br.yes ?_; conv => whnf) | (refine br.no ?_; conv => whnf))
  refine oimpl_NormWeights_no (i := 3) rfl hx hn h ?_
  conv => whnf
  repeat (first | (refine br.yes ?_; conv => whnf) | (refine br.no ?_; conv => whnf))
  refine c_eqFloatsS0 ?_
  conv => whnf
  repeat (first | (refine br.yes ?_; conv => whnf) | (refine br.no ?_; conv => whnf))
  refine br_false (by rw [notB_eq]; rfl) ?_
  conv => whnf
  repeat (first | (refine br.yes ?_; conv => whnf) | (refine br.no ?_; conv => whnf))
  refine br_false (neq_self _) ?_
  conv => whnf
  repeat (first | (refine br.yes ?_; conv => whnf) | (refine br.no ?_; conv => whnf))
  refine c_toFs (i := 0) rfl hx hn ?_
  conv => whnf
  repeat (first | (refine br.yes ?_; conv => whnf) | (refine br.no ?_; conv => whnf))
  refine c_eqFloatsS (i := 3) (j := 4) rfl rfl hn ?_
  conv => whnf
  repeat (first | (refine br.yes ?_; conv => whnf) | (refine br.no ?_; conv => whnf))
  refine br_false (by rw [notB_eq]; rfl) ?_
  conv => whnf
  repeat (first | (refine br.yes ?_; conv => whnf) | (refine br.no ?_; conv => whnf))
  refine c_markF (i := 3) (k := 1) rfl hx hn (by decide) (fun ys hy hmy => ?_)
  conv => whnf
  repeat (first | (refine br.yes ?_; conv => whnf) | (refine br.no ?_; conv => whnf))
  refine br_false (by rw [cmI_lss]; simp; omega) ?_
  conv => whnf
  repeat (first | (refine br.yes ?_; conv => whnf) | (refine br.no ?_; conv => whnf))
  refine c_eqFloatsS0 ?_
  conv => whnf
  repeat (first | (refine br.yes ?_; conv => whnf) | (refine br.no ?_; conv => whnf))
  refine br_false (by rw [notB_eq]; rfl) ?_
  conv => whnf
  repeat (first | (refine br.yes ?_; conv => whnf) | (refine br.no ?_; conv => whnf))
  refine br_false (neq_self _) ?_
  conv => whnf
  repeat (first | (refine br.yes ?_; conv => whnf) | (refine br.no ?_; conv => whnf))
  refine c_markF0 (k := 1) ?_
  conv => whnf
  repeat (first | (refine br.yes ?_; conv => whnf) | (refine br.no ?_; conv => whnf))
  refine c_heldF0 (k := 1) ?_
  conv => whnf
  repeat (first | (refine br.yes ?_; conv => whnf) | (refine br.no ?_; conv => whnf))
  refine br_false (by rw [cmI_lss]; rfl) ?_
  conv => whnf
  repeat (first | (refine br.yes ?_; conv => whnf) | (refine br.no ?_; conv => whnf))
  refine br_false (neq_self _) ?_
  conv => whnf
  repeat (first | (refine br.yes ?_; conv => whnf) | (refine br.no ?_; conv => whnf))
  refine c_toFs (i := 0) rfl hx hn ?_
  conv => whnf
  repeat (first | (refine br.yes ?_; conv => whnf) | (refine br.no ?_; conv => whnf))
  refine oimpl_NormWeights_no (i := 5) rfl hx hn h ?_
  conv => whnf
  repeat (first | (refine br.yes ?_; conv => whnf) | (refine br.no ?_; conv => whnf))
  refine c_eqFloatsS0 ?_
  conv => whnf
  repeat (first | (refine br.yes ?_; conv => whnf) | (refine br.no ?_; conv => whnf))
  refine br_false (by rw [notB_eq]; rfl) ?_
  conv => whnf
  repeat (first | (refine br.yes ?_; conv => whnf) | (refine br.no ?_; conv => whnf))
  refine br_false (neq_self _) ?_
  conv => whnf
  repeat (first | (refine br.yes ?_; conv => whnf) | (refine br.no ?_; conv => whnf))
  refine c_heldF0 (k := 1) ?_
  conv => whnf
  repeat (first | (refine br.yes ?_; conv => whnf) | (refine br.no ?_; conv => whnf))
  refine br_false (by rw [cmI_lss]; rfl) ?_
  conv => whnf
  repeat (first | (refine br.yes ?_; conv => whnf) | (refine br.no ?_; conv => whnf))
  refine br_false (neq_self _) ?_
  conv => whnf
  repeat (first | (refine br.yes ?_; conv => whnf) | (refine br.no ?_; conv => whnf))
  exact hK _
set_option maxRecDepth 20000 in
set_option maxHeartbeats 1600000 in
theorem law_NormWeights_ok {n c : Nat} {xs : List Nat} (hx : xs.length = n) (hn : n ≤ 16) (h : nwCode xs = 0) (hK : ∀ m, K (AV.bool true) m) : CallLeaf Try.prog w0 6 [.sl 0 [] 1 0 n c] [⟨false, .af n xs, 0⟩] K := by
  have hl : ((nwList xs).map plusN).length = n := by rw [List.length_map, nwList_length]; exact hx
  refine fn_go hmix h6 ?_
  conv => whnf
  repeat (first | (refine br.yes ?_; conv => whnf) | (refine br.no ?_; conv => whnf))
  refine br_false (by rw [cmI_gtr]; simp; omega) ?_
  conv => whnf
  repeat (first | (refine br.yes ?_; conv => whnf) | (refine br.no ?_; conv => whnf))
  refine c_toFs (i := 0) rfl hx (by omega) ?_
  conv => whnf
  repeat (first | (refine br.yes ?_; conv => whnf) | (refine br.no ?_; conv => whnf))
  refine ospec_NormWeights_ok (i := 1) rfl hx (by omega) h (fun c1 cap => ?_)
  conv => whnf
  repeat (first | (refine br.yes ?_; conv => whnf) | (refine br.no ?_; conv => whnf))
  refine c_toFs (i := 0) rfl hx (by omega) ?_
  conv => whnf
  repeat (first | (refine br.yes ?_; conv => whnf) | (refine br.no ?_; conv => whnf))
  refine oimpl_NormWeights_ok (i := 4) rfl hx (by omega) h (fun c2 cap2 => ?_)
  conv => whnf
  repeat (first | (refine br.yes ?_; conv => whnf) | (refine br.no ?_; conv => whnf))
  refine c_eqFloatsS (i := 5) (j := 3) rfl rfl (by omega) ?_
  conv => whnf
  repeat (first | (refine br.yes ?_; conv => whnf) | (refine br.no ?_; conv => whnf))
  refine br_false (by rw [notB_eq]; rfl) ?_
  conv => whnf
  repeat (first | (refine br.yes ?_; conv => whnf) | (refine br.no ?_; conv => whnf))
  refine br_false (neq_self _) ?_
  conv => whnf
  repeat (first | (refine br.yes ?_; conv => whnf) | (refine br.no ?_; conv => whnf))
  refine c_toFs (i := 0) rfl hx (by omega) ?_
  conv => whnf
  repeat (first | (refine br.yes ?_; conv => whnf) | (refine br.no ?_; conv => whnf))
  refine c_eqFloatsS (i := 4) (j := 6) rfl rfl (by omega) ?_
  conv => whnf
  repeat (first | (refine br.yes ?_; conv => whnf) | (refine br.no ?_; conv => whnf))
  refine br_false (by rw [notB_eq]; rfl) ?_
  conv => whnf
  repeat (first | (refine br.yes ?_; conv => whnf) | (refine br.no ?_; conv => whnf))
  refine c_markF (i := 4) (k := 1) rfl hx (by omega) (by decide) (fun ys hy hmy => ?_)
  conv => whnf
  repeat (first | (refine br.yes ?_; conv => whnf) | (refine br.no ?_; conv => whnf))
  refine br_false (by rw [cmI_lss]; simp; omega) ?_
  conv => whnf
  repeat (first | (refine br.yes ?_; conv => whnf) | (refine br.no ?_; conv => whnf))
  refine c_eqFloatsS (i := 5) (j := 3) rfl rfl (by omega) ?_
  conv => whnf
  repeat (first | (refine br.yes ?_; conv => whnf) | (refine br.no ?_; conv => whnf))
  refine br_false (by rw [notB_eq]; rfl) ?_
  conv => whnf
  repeat (first | (refine br.yes ?_; conv => whnf) | (refine br.no ?_; conv => whnf))
  refine br_false (neq_self _) ?_
  conv => whnf
  repeat (first | (refine br.yes ?_; conv => whnf) | (refine br.no ?_; conv => whnf))
  refine c_markF (i := 5) (k := 1) rfl hl (by omega) (by decide) (fun zs hz hmz => ?_)
  conv => whnf
  repeat (first | (refine br.yes ?_; conv => whnf) | (refine br.no ?_; conv => whnf))
  refine c_heldF (i := 5) (k := 1) rfl hz (by omega) (by decide) hmz ?_
  conv => whnf
  repeat (first | (refine br.yes ?_; conv => whnf) | (refine br.no ?_; conv => whnf))
  refine br_false (by rw [cmI_lss]; simp; omega) ?_
  conv => whnf
  repeat (first | (refine br.yes ?_; conv => whnf) | (refine br.no ?_; conv => whnf))
  refine br_false (neq_self _) ?_
  conv => whnf
  repeat (first | (refine br.yes ?_; conv => whnf) | (refine br.no ?_; conv => whnf))
  refine c_toFs (i := 0) rfl hx (by omega) ?_
  conv => whnf
  repeat (first | (refine br.yes ?_; conv => whnf) | (refine br.no ?_; conv => whnf))
  refine oimpl_NormWeights_ok (i := 7) rfl hx (by omega) h (fun c3 cap3 => ?_)
  conv => whnf
  repeat (first | (refine br.yes ?_; conv => whnf) | (refine br.no ?_; conv => whnf))
  refine c_eqFloatsS (i := 8) (j := 3) rfl rfl (by omega) ?_
  conv => whnf
  repeat (first | (refine br.yes ?_; conv => whnf) | (refine br.no ?_; conv => whnf))
  refine br_false (by rw [notB_eq]; rfl) ?_
  conv => whnf
  repeat (first | (refine br.yes ?_; conv => whnf) | (refine br.no ?_; conv => whnf))
  refine br_false (neq_self _) ?_
  conv => whnf
  repeat (first | (refine br.yes ?_; conv => whnf) | (refine br.no ?_; conv => whnf))
  refine c_heldF (i := 5) (k := 1) rfl hz (by omega) (by decide) hmz ?_
  conv => whnf
  repeat (first | (refine br.yes ?_; conv => whnf) | (refine br.no ?_; conv => whnf))
  refine br_false (by rw [cmI_lss]; simp; omega) ?_
  conv => whnf
  repeat (first | (refine br.yes ?_; conv => whnf) | (refine br.no ?_; conv => whnf))
  refine br_false (neq_self _) ?_
  conv => whnf
  repeat (first | (refine br.yes ?_; conv => whnf) | (refine br.no ?_; conv => whnf))
  exact hK _
theorem law_NormWeights {n c : Nat} {xs : List Nat} (hx : xs.length = n) (hK : ∀ m, K (AV.bool true) m) : CallLeaf Try.prog w0 6 [.sl 0 [] 1 0 n c] [⟨false, .af n xs, 0⟩] K := by
  by_cases hn : n ≤ 1048576
  · by_cases h : nwCode xs = 0
    · have := nw_len h
      exact law_NormWeights_ok hx (by omega) h hK
    · exact law_NormWeights_no hx hn h hK
  · refine fn_go hmix h6 ?_
    conv => whnf
    repeat (first | (refine br.yes ?_; conv => whnf) | (refine br.no ?_; conv => whnf))
    refine br_true (by rw [cmI_gtr]; simp; omega) ?_
    conv => whnf
    repeat (first | (refine br.yes ?_; conv => whnf) | (refine br.no ?_; conv => whnf))
    exact hK _
end
end Go.Proofs.Ytpcakgdagmcopaa
