/- The library's sort, walked: the parts. -/
import Derived.Test.YtfkbgfpidolhhaaConR
import Derived.Sort.AssemblyPlain
import Derived.Sort.LotD4
import Derived.Sort.LotD5
namespace Go.Proofs.Ytfkbgfpidolhhaa
open Go Go.Fw
section
variable {w0 : World} {m : MS} {K : AV → MS → Prop}
/-! a row that is sorted in place: one block, by an array -/
/-- A loop's rounds, with what follows them closed. -/
theorem loop_opq {nb : Nat} {body : TS → MS → (DExit → TS → MS → Prop) → Prop} {ts : TS} {m : MS} {K : DExit → TS → MS → Prop} (N : Nat) (I : Nat → TS → MS → Prop) (ts0 : TS) (m0 : MS) (hw : Weak ts ts0) (ht : Trim nb ts0 m m0) (h0 : I 0 ts0 m0)
    (hs : ∀ i, i ≤ N → ∀ ts m, I i ts m → ∀ R : TS → MS → Prop, (i < N → ∀ ts m ts' m', Weak ts ts' → Trim nb ts' m m' → I (i + 1) ts' m' → R ts m) →
      ∀ KK : DExit → TS → MS → Prop, (∀ ts m, R ts m → KK .normal ts m) → (∀ ts m, K .ret ts m → KK .ret ts m) → (∀ j ts m, K (.exit j) ts m → KK (.exit j) ts m) → body ts m KK) : LoopLeaf nb body ts m K :=
  loop_inv N I ts0 m0 hw ht h0 (fun i hi ts m h R hR => hs i hi ts m h R hR _ (fun _ _ h => h) (fun _ _ h => h) (fun _ _ _ h => h))
@[irreducible] def rowM (m : MS) (i n r : Nat) (d : Array Int) : MS := setM m i ⟨true, .ai n d.toList, r⟩
theorem row_get {i n r : Nat} {e : Ent} {d : Array Int} (hi : getE m i = some e) : getE (rowM m i n r d) i = some ⟨true, .ai n d.toList, r⟩ := by unfold rowM; exact getE_set hi
theorem row_row {i n r : Nat} {d d' : Array Int} : rowM (rowM m i n r d) i n r d' = rowM m i n r d' := by unfold rowM; rw [set_set_ms]
theorem row_nth {d : Array Int} {j : Nat} : nth d.toList (addN 0 (toN (j : Int))) 0 = d[j]! := by
  rw [nth_at]
  simp [List.getD_eq_getElem?_getD, Array.getElem!_eq_getD]
theorem row_put {i n r j : Nat} {d : Array Int} {v : Int} {k : MS → Prop} : setEK (rowM m i n r d) i ⟨true, .ai n (upd d.toList (addN 0 (toN (j : Int))) v), r⟩ k = k (rowM m i n r (d.setIfInBounds j v)) := by
  rw [setEK_M, upd_at]
  unfold rowM
  rw [set_set_ms, Array.toList_setIfInBounds]
theorem c_isNaNI {x : Int} (hK : K (AV.bool false) m) : CallLeaf Try.prog w0 92 [AV.int x] m K := by
  refine fn_go hmix h92 ?_
  conv => whnf
  repeat (first | (refine br.yes ?_; conv => whnf) | (refine br.no ?_; conv => whnf))
  exact K_bool hK (neq_self x).symm
theorem c_Less {x y : Int} (hK : K (AV.bool (Go.Sort.ltInt x y)) m) : CallLeaf Try.prog w0 82 [AV.int x, AV.int y] m K := by
  refine fn_go hmix h82 ?_
  conv => whnf
  repeat (first | (refine br.yes ?_; conv => whnf) | (refine br.no ?_; conv => whnf))
  refine c_isNaNI ?_
  conv => whnf
  repeat (first | (refine br.yes ?_; conv => whnf) | (refine br.no ?_; conv => whnf))
  exact K_bool hK (by rw [cmI_lss]; rfl)
theorem swp_eq {d : Array Int} {p q : Nat} : (d.setIfInBounds p d[q]!).setIfInBounds q d[p]! = Go.Sort.swp d p q := rfl
theorem insInner_s {a j : Nat} {d : Array Int} : Go.Sort.insInner Go.Sort.ltInt a (j + 1) d = if j + 1 > a && Go.Sort.ltInt d[j + 1]! d[j]! then Go.Sort.insInner Go.Sort.ltInt a j (Go.Sort.swp d (j + 1) j) else d := rfl
theorem gtr_nat {a b : Nat} : cmI .gtr (a : Int) (b : Int) = decide (b < a) := by rw [cmI_gtr]; simp
theorem lss_nat {a b : Nat} : cmI .lss (a : Int) (b : Int) = decide (a < b) := by rw [cmI_lss]; simp
theorem geq_nat {a b : Nat} : cmI .geq (a : Int) (b : Int) = decide (b ≤ a) := by rw [cmI_geq]; simp
theorem leq_nat {a b : Nat} : cmI .leq (a : Int) (b : Int) = decide (a ≤ b) := by rw [cmI_leq]; simp
set_option maxRecDepth 20000 in
theorem c_insertion {a b n c r i : Nat} {e : Ent} {d : Array Int} (hi : getE m i = some e) (hn : n ≤ 1000000) (hb : b ≤ n) (ha : a ≤ n)
    (hK : K (.tup []) (rowM m i n r (Go.Sort.insertionSort Go.Sort.ltInt d a b))) : CallLeaf Try.prog w0 76 [.sl i [] 1 0 n c, AV.int a, AV.int b] (rowM m i n r d) K := by
  obtain ⟨T, hT⟩ : ∃ T, T = Go.Sort.insertionSort Go.Sort.ltInt d a b := ⟨_, rfl⟩
  rw [← hT] at hK
  refine fn_go hmix h76 ?_
  conv => whnf
  repeat (first | (refine br.yes ?_; conv => whnf) | (refine br.no ?_; conv => whnf))
  rw [add_one (by omega)]
  refine loop_opq (b - (a + 1)) (fun k ts M => ∃ d', M = rowM m i n r d' ∧ Go.Sort.insOuter Go.Sort.ltInt a b (a + 1 + k) d' = T ∧ ts = [.sl i [] 1 0 n c, AV.int a, AV.int b, .junk, .junk, .junk, AV.int (a + 1 + k : Nat), .junk, .junk, .junk, .junk, .junk, .junk, .junk, .junk, .junk, .junk, .junk, .junk, .junk, .junk, .junk, .junk, .junk, .junk, .junk, .junk, .junk, .junk, .junk, .junk, .junk, .junk, .junk, .junk, .junk, .junk, .junk, .junk, .junk, .junk, .junk, .junk, .junk, .junk, .junk, .junk, .junk, .junk]) _ _ ?hw trim_no ⟨d, rfl, hT.symm, rfl⟩ ?_
  case hw =>
    repeat (first | exact weak_nil | refine weak_same ?_ | refine weak_junk ?_)
  rintro k hk ts m' ⟨d', rfl, hd, rfl⟩ R hR KK k1 k2 k3
  conv => whnf
  repeat (first | (refine br.yes ?_; conv => whnf) | (refine br.no ?_; conv => whnf))
  refine br_intro (fun h1 => ?_) (fun h1 => ?_)
  · have hk1 : a + 1 + k < b := lt_of_lss h1
    rw [Go.Sort.insOuter, if_pos hk1] at hd
    obtain ⟨U, hU⟩ : ∃ U, U = Go.Sort.insInner Go.Sort.ltInt a (a + 1 + k) d' := ⟨_, rfl⟩
    rw [← hU] at hd
    conv => whnf
    repeat (first | (refine br.yes ?_; conv => whnf) | (refine br.no ?_; conv => whnf))
    refine loop_opq (a + 1 + k) (fun q ts M => ∃ d2 j, M = rowM m i n r d2 ∧ j + q = a + 1 + k ∧ Go.Sort.insInner Go.Sort.ltInt a j d2 = U ∧ ts = [.sl i [] 1 0 n c, AV.int a, AV.int b, .junk, .junk, .junk, AV.int (a + 1 + k : Nat), AV.int j, .junk, .junk, .junk, .junk, .junk, .junk, .junk, .junk, .junk, .junk, .junk, .junk, .junk, .junk, .junk, .junk, .junk, .junk, .junk, .junk, .junk, .junk, .junk, .junk, .junk, .junk, .junk, .junk, .junk, .junk, .junk, .junk, .junk, .junk, .junk, .junk, .junk, .junk, .junk, .junk, .junk]) _ _ ?hw2 trim_no ⟨d', a + 1 + k, rfl, rfl, hU.symm, rfl⟩ ?_
    case hw2 =>
      repeat (first | exact weak_nil | refine weak_same ?_ | refine weak_junk ?_)
    have fin : ∀ d2 j, j ≤ a + 1 + k → (j ≤ a ∨ Go.Sort.ltInt d2[j]! d2[j - 1]! = false) → Go.Sort.insInner Go.Sort.ltInt a j d2 = U → d2 = U := by
      intro d2 j hj hs hd2
      cases j with
      | zero => exact hd2
      | succ j =>
        rw [insInner_s, if_neg] at hd2
        · exact hd2
        · rcases hs with hs | hs
          · simp; intro h; omega
          · simp only [Nat.add_sub_cancel] at hs
            simp [hs]
    rintro q hq ts m' ⟨d2, j, rfl, hj, hd2, rfl⟩ R2 hR2 KK2 j1 j2 j3
    have next : ∀ ts, U = d2 → Weak ts [.sl i [] 1 0 n c, AV.int a, AV.int b, .junk, .junk, .junk, AV.int (a + 1 + k + 1 : Nat), .junk, .junk, .junk, .junk, .junk, .junk, .junk, .junk, .junk, .junk, .junk, .junk, .junk, .junk, .junk, .junk, .junk, .junk, .junk, .junk, .junk, .junk, .junk, .junk, .junk, .junk, .junk, .junk, .junk, .junk, .junk, .junk, .junk, .junk, .junk, .junk, .junk, .junk, .junk, .junk, .junk, .junk] → R ts (rowM m i n r d2) := by
      intro ts hUd hw
      refine hR (by omega) _ _ _ _ hw trim_no ⟨d2, rfl, by rw [← hUd]; exact hd, rfl⟩
    conv => whnf
    repeat (first | (refine br.yes ?_; conv => whnf) | (refine br.no ?_; conv => whnf))
    refine br_intro (fun g1 => ?_) (fun g1 => ?_)
    · have hja : a < j := by rw [gtr_nat] at g1; simpa using g1
      conv => whnf
      repeat (first | (refine br.yes ?_; conv => whnf) | (refine br.no ?_; conv => whnf))
      refine ⟨side_in ⟨by omega, by omega⟩, ?_⟩
      conv => whnf
      repeat (first | (refine br.yes ?_; conv => whnf) | (refine br.no ?_; conv => whnf))
      rw [row_get hi]
      conv => whnf
      repeat (first | (refine br.yes ?_; conv => whnf) | (refine br.no ?_; conv => whnf))
      refine ⟨side_in (at_lt (by omega)), ?_⟩
      rw [row_nth]
      conv => whnf
      repeat (first | (refine br.yes ?_; conv => whnf) | (refine br.no ?_; conv => whnf))
      rw [sub_one (by omega) (by omega)]
      refine ⟨side_in ⟨by omega, by omega⟩, ?_⟩
      conv => whnf
      repeat (first | (refine br.yes ?_; conv => whnf) | (refine br.no ?_; conv => whnf))
      rw [row_get hi]
      conv => whnf
      repeat (first | (refine br.yes ?_; conv => whnf) | (refine br.no ?_; conv => whnf))
      refine ⟨side_in (at_lt (by omega)), ?_⟩
      rw [row_nth]
      conv => whnf
      repeat (first | (refine br.yes ?_; conv => whnf) | (refine br.no ?_; conv => whnf))
      refine q_keep (AV.bool (Go.Sort.ltInt d2[j]! d2[j - 1]!)) (fun K' h => c_Less h) ?_
      conv => whnf
      repeat (first | (refine br.yes ?_; conv => whnf) | (refine br.no ?_; conv => whnf))
      refine br_intro (fun g2 => ?_) (fun g2 => ?_)
      · conv => whnf
        repeat (first | (refine br.yes ?_; conv => whnf) | (refine br.no ?_; conv => whnf))
        rw [sub_one (by omega) (by omega)]
        refine ⟨side_in ⟨by omega, by omega⟩, ?_⟩
        conv => whnf
        repeat (first | (refine br.yes ?_; conv => whnf) | (refine br.no ?_; conv => whnf))
        rw [row_get hi]
        conv => whnf
        repeat (first | (refine br.yes ?_; conv => whnf) | (refine br.no ?_; conv => whnf))
        refine ⟨side_in (at_lt (by omega)), ?_⟩
        rw [row_nth]
        conv => whnf
        repeat (first | (refine br.yes ?_; conv => whnf) | (refine br.no ?_; conv => whnf))
        refine ⟨side_in ⟨by omega, by omega⟩, ?_⟩
        conv => whnf
        repeat (first | (refine br.yes ?_; conv => whnf) | (refine br.no ?_; conv => whnf))
        rw [row_get hi]
        conv => whnf
        repeat (first | (refine br.yes ?_; conv => whnf) | (refine br.no ?_; conv => whnf))
        refine ⟨side_in (at_lt (by omega)), ?_⟩
        rw [row_nth]
        conv => whnf
        repeat (first | (refine br.yes ?_; conv => whnf) | (refine br.no ?_; conv => whnf))
        refine ⟨side_in ⟨by omega, by omega⟩, ?_⟩
        conv => whnf
        repeat (first | (refine br.yes ?_; conv => whnf) | (refine br.no ?_; conv => whnf))
        rw [row_get hi]
        conv => whnf
        repeat (first | (refine br.yes ?_; conv => whnf) | (refine br.no ?_; conv => whnf))
        refine ⟨side_in (at_lt (by omega)), ?_⟩
        conv => whnf
        repeat (first | (refine br.yes ?_; conv => whnf) | (refine br.no ?_; conv => whnf))
        rw [row_put]
        conv => whnf
        repeat (first | (refine br.yes ?_; conv => whnf) | (refine br.no ?_; conv => whnf))
        refine ⟨side_in ⟨by omega, by omega⟩, ?_⟩
        conv => whnf
        repeat (first | (refine br.yes ?_; conv => whnf) | (refine br.no ?_; conv => whnf))
        rw [row_get hi]
        conv => whnf
        repeat (first | (refine br.yes ?_; conv => whnf) | (refine br.no ?_; conv => whnf))
        refine ⟨side_in (at_lt (by omega)), ?_⟩
        conv => whnf
        repeat (first | (refine br.yes ?_; conv => whnf) | (refine br.no ?_; conv => whnf))
        rw [row_put]
        conv => whnf
        repeat (first | (refine br.yes ?_; conv => whnf) | (refine br.no ?_; conv => whnf))
        rw [swp_eq, sub_one (by omega) (by omega)]
        refine j1 _ _ (hR2 (by omega) _ _ _ _ ?hw3 trim_no ⟨Go.Sort.swp d2 j (j - 1), j - 1, rfl, by omega, ?_, rfl⟩)
        case hw3 =>
          repeat (first | exact weak_nil | refine weak_same ?_ | refine weak_junk ?_)
        obtain ⟨j', rfl⟩ : ∃ j', j = j' + 1 := ⟨j - 1, by omega⟩
        rw [insInner_s, if_pos (by simp only [Nat.add_sub_cancel] at g2; simp [g2]; omega)] at hd2
        exact hd2
      · conv => whnf
        repeat (first | (refine br.yes ?_; conv => whnf) | (refine br.no ?_; conv => whnf))
        refine j3 2 _ _ ?_
        conv => whnf
        repeat (first | (refine br.yes ?_; conv => whnf) | (refine br.no ?_; conv => whnf))
        rw [add_one (by omega)]
        refine k1 _ _ (next _ (fin d2 j (by omega) (.inr g2) hd2).symm ?_)
        repeat (first | exact weak_nil | refine weak_same ?_ | refine weak_junk ?_)
    · have hja : j ≤ a := by rw [gtr_nat] at g1; simpa using g1
      conv => whnf
      repeat (first | (refine br.yes ?_; conv => whnf) | (refine br.no ?_; conv => whnf))
      refine j3 2 _ _ ?_
      conv => whnf
      repeat (first | (refine br.yes ?_; conv => whnf) | (refine br.no ?_; conv => whnf))
      rw [add_one (by omega)]
      refine k1 _ _ (next _ (fin d2 j (by omega) (.inl hja) hd2).symm ?_)
      repeat (first | exact weak_nil | refine weak_same ?_ | refine weak_junk ?_)
  · have hk2 : ¬ a + 1 + k < b := by rw [lss_nat] at h1; simpa using h1
    rw [Go.Sort.insOuter, if_neg hk2] at hd
    subst hd
    conv => whnf
    repeat (first | (refine br.yes ?_; conv => whnf) | (refine br.no ?_; conv => whnf))
    refine k3 0 _ _ ?_
    conv => whnf
    repeat (first | (refine br.yes ?_; conv => whnf) | (refine br.no ?_; conv => whnf))
    exact hK
theorem two_mul_i {r : Nat} (h : r ≤ 1000000) : arI .mul .i64 2 (r : Int) = ((2 * r : Nat) : Int) := by
  rw [arI_mul, wrap_fits (by omega) (by omega)]; omega
theorem notB_t {b : Bool} (h : notB b = true) : b = false := by rw [notB_eq] at h; simpa using h
theorem notB_f {b : Bool} (h : notB b = false) : b = true := by rw [notB_eq] at h; simpa using h
set_option maxRecDepth 20000 in
set_option maxHeartbeats 1600000 in
theorem c_sift {lo hi' first n c r i : Nat} {e : Ent} {d : Array Int} (hi : getE m i = some e) (hn : n ≤ 400000) (hb : first + hi' ≤ n) (hlo : lo ≤ n)
    (hK : K (.tup []) (rowM m i n r (Go.Sort.siftDown Go.Sort.ltInt hi' first lo d))) : CallLeaf Try.prog w0 87 [.sl i [] 1 0 n c, AV.int lo, AV.int hi', AV.int first] (rowM m i n r d) K := by
  obtain ⟨T, hT⟩ : ∃ T, T = Go.Sort.siftDown Go.Sort.ltInt hi' first lo d := ⟨_, rfl⟩
  rw [← hT] at hK
  refine fn_go hmix h87 ?_
  conv => whnf
  repeat (first | (refine br.yes ?_; conv => whnf) | (refine br.no ?_; conv => whnf))
  refine loop_opq n (fun k ts M => ∃ d' root, M = rowM m i n r d' ∧ (k ≤ root ∧ root ≤ n) ∧ Go.Sort.siftDown Go.Sort.ltInt hi' first root d' = T ∧ ts = [.sl i [] 1 0 n c, AV.int lo, AV.int hi', AV.int first, .junk, .junk, .junk, .junk, AV.int root, .junk, .junk, .junk, .junk, .junk, .junk, .junk, .junk, .junk, .junk, .junk, .junk, .junk, .junk, .junk, .junk, .junk, .junk, .junk, .junk, .junk, .junk, .junk, .junk, .junk, .junk, .junk, .junk, .junk, .junk, .junk, .junk, .junk, .junk, .junk, .junk, .junk, .junk, .junk, .junk, .junk, .junk, .junk, .junk, .junk, .junk, .junk, .junk, .junk, .junk, .junk, .junk, .junk, .junk, .junk, .junk, .junk, .junk, .junk, .junk, .junk, .junk, .junk, .junk, .junk, .junk, .junk]) _ _ ?hw trim_no ⟨d, lo, rfl, ⟨by omega, hlo⟩, hT.symm, rfl⟩ ?_
  case hw =>
    repeat (first | exact weak_nil | refine weak_same ?_ | refine weak_junk ?_)
  rintro k hk ts m' ⟨d', root, rfl, hr, hd, rfl⟩ R hR KK k1 k2 k3
  conv => whnf
  repeat (first | (refine br.yes ?_; conv => whnf) | (refine br.no ?_; conv => whnf))
  rw [two_mul_i (by omega), add_one (by omega)]
  refine br_intro (fun h1 => ?_) (fun h1 => ?_)
  · have h1' : 2 * root + 1 ≥ hi' := by rw [geq_nat] at h1; simpa using h1
    rw [Go.Sort.siftDown, dif_pos h1'] at hd
    subst hd
    conv => whnf
    repeat (first | (refine br.yes ?_; conv => whnf) | (refine br.no ?_; conv => whnf))
    refine k3 0 _ _ ?_
    conv => whnf
    repeat (first | (refine br.yes ?_; conv => whnf) | (refine br.no ?_; conv => whnf))
    exact hK
  · have h1' : ¬ 2 * root + 1 ≥ hi' := by rw [geq_nat] at h1; simpa using h1
    conv => whnf
    repeat (first | (refine br.yes ?_; conv => whnf) | (refine br.no ?_; conv => whnf))
    rw [add_one (by omega)]
    refine br_intro (fun h2 => ?_) (fun h2 => ?_)
    · have h2' : 2 * root + 1 + 1 < hi' := by rw [lss_nat] at h2; simpa using h2
      conv => whnf
      repeat (first | (refine br.yes ?_; conv => whnf) | (refine br.no ?_; conv => whnf))
      rw [add_nat (by omega) (by omega)]
      refine ⟨side_in ⟨by omega, by omega⟩, ?_⟩
      conv => whnf
      repeat (first | (refine br.yes ?_; conv => whnf) | (refine br.no ?_; conv => whnf))
      rw [row_get hi]
      conv => whnf
      repeat (first | (refine br.yes ?_; conv => whnf) | (refine br.no ?_; conv => whnf))
      refine ⟨side_in (at_lt (by omega)), ?_⟩
      rw [row_nth]
      conv => whnf
      repeat (first | (refine br.yes ?_; conv => whnf) | (refine br.no ?_; conv => whnf))
      rw [add_nat (by omega) (by omega), add_one (by omega)]
      refine ⟨side_in ⟨by omega, by omega⟩, ?_⟩
      conv => whnf
      repeat (first | (refine br.yes ?_; conv => whnf) | (refine br.no ?_; conv => whnf))
      rw [row_get hi]
      conv => whnf
      repeat (first | (refine br.yes ?_; conv => whnf) | (refine br.no ?_; conv => whnf))
      refine ⟨side_in (at_lt (by omega)), ?_⟩
      rw [row_nth]
      conv => whnf
      repeat (first | (refine br.yes ?_; conv => whnf) | (refine br.no ?_; conv => whnf))
      refine q_keep (AV.bool (Go.Sort.ltInt d'[first + (2 * root + 1)]! d'[first + (2 * root + 1) + 1]!)) (fun K' h => c_Less h) ?_
      conv => whnf
      repeat (first | (refine br.yes ?_; conv => whnf) | (refine br.no ?_; conv => whnf))
      refine br_intro (fun h3 => ?_) (fun h3 => ?_)
      · have hs : (decide (2 * root + 1 + 1 < hi') && Go.Sort.ltInt d'[first + (2 * root + 1)]! d'[first + (2 * root + 1) + 1]!) = true := by simp [h2', h3]
        conv => whnf
        repeat (first | (refine br.yes ?_; conv => whnf) | (refine br.no ?_; conv => whnf))
        rw [add_one (by omega)]
        have hc0 : (2 * root + 1 + 1) < hi' := by omega
        rw [show arI .add .i64 ((first : Nat) : Int) ((root : Nat) : Int) = ((first + root : Nat) : Int) from add_nat (by omega) (by omega)]
        refine ⟨side_in ⟨by omega, by omega⟩, ?_⟩
        conv => whnf
        repeat (first | (refine br.yes ?_; conv => whnf) | (refine br.no ?_; conv => whnf))
        rw [row_get hi]
        conv => whnf
        repeat (first | (refine br.yes ?_; conv => whnf) | (refine br.no ?_; conv => whnf))
        refine ⟨side_in (at_lt (by omega)), ?_⟩
        rw [row_nth]
        conv => whnf
        repeat (first | (refine br.yes ?_; conv => whnf) | (refine br.no ?_; conv => whnf))
        rw [show arI .add .i64 ((first : Nat) : Int) (((2 * root + 1 + 1) : Nat) : Int) = ((first + (2 * root + 1 + 1) : Nat) : Int) from add_nat (by omega) (by omega)]
        refine ⟨side_in ⟨by omega, by omega⟩, ?_⟩
        conv => whnf
        repeat (first | (refine br.yes ?_; conv => whnf) | (refine br.no ?_; conv => whnf))
        rw [row_get hi]
        conv => whnf
        repeat (first | (refine br.yes ?_; conv => whnf) | (refine br.no ?_; conv => whnf))
        refine ⟨side_in (at_lt (by omega)), ?_⟩
        rw [row_nth]
        conv => whnf
        repeat (first | (refine br.yes ?_; conv => whnf) | (refine br.no ?_; conv => whnf))
        refine q_keep (AV.bool (Go.Sort.ltInt d'[first + root]! d'[first + (2 * root + 1 + 1)]!)) (fun K' h => c_Less h) ?_
        conv => whnf
        repeat (first | (refine br.yes ?_; conv => whnf) | (refine br.no ?_; conv => whnf))
        refine br_intro (fun g4 => ?_) (fun g4 => ?_)
        · have hl := notB_t g4
          conv => whnf
          repeat (first | (refine br.yes ?_; conv => whnf) | (refine br.no ?_; conv => whnf))
          refine k2 _ _ ?_
          conv => whnf
          repeat (first | (refine br.yes ?_; conv => whnf) | (refine br.no ?_; conv => whnf))
          have : d' = T := by
            rw [Go.Sort.siftDown, dif_neg h1'] at hd
            rw [if_pos hs, if_pos (by rw [hl]; rfl)] at hd
            exact hd
          rw [this]
          exact hK
        · have hl := notB_f g4
          conv => whnf
          repeat (first | (refine br.yes ?_; conv => whnf) | (refine br.no ?_; conv => whnf))
          rw [show arI .add .i64 ((first : Nat) : Int) (((2 * root + 1 + 1) : Nat) : Int) = ((first + (2 * root + 1 + 1) : Nat) : Int) from add_nat (by omega) (by omega)]
          refine ⟨side_in ⟨by omega, by omega⟩, ?_⟩
          conv => whnf
          repeat (first | (refine br.yes ?_; conv => whnf) | (refine br.no ?_; conv => whnf))
          rw [row_get hi]
          conv => whnf
          repeat (first | (refine br.yes ?_; conv => whnf) | (refine br.no ?_; conv => whnf))
          refine ⟨side_in (at_lt (by omega)), ?_⟩
          rw [row_nth]
          conv => whnf
          repeat (first | (refine br.yes ?_; conv => whnf) | (refine br.no ?_; conv => whnf))
          rw [show arI .add .i64 ((first : Nat) : Int) ((root : Nat) : Int) = ((first + root : Nat) : Int) from add_nat (by omega) (by omega)]
          refine ⟨side_in ⟨by omega, by omega⟩, ?_⟩
          conv => whnf
          repeat (first | (refine br.yes ?_; conv => whnf) | (refine br.no ?_; conv => whnf))
          rw [row_get hi]
          conv => whnf
          repeat (first | (refine br.yes ?_; conv => whnf) | (refine br.no ?_; conv => whnf))
          refine ⟨side_in (at_lt (by omega)), ?_⟩
          rw [row_nth]
          conv => whnf
          repeat (first | (refine br.yes ?_; conv => whnf) | (refine br.no ?_; conv => whnf))
          refine ⟨side_in ⟨by omega, by omega⟩, ?_⟩
          conv => whnf
          repeat (first | (refine br.yes ?_; conv => whnf) | (refine br.no ?_; conv => whnf))
          rw [row_get hi]
          conv => whnf
          repeat (first | (refine br.yes ?_; conv => whnf) | (refine br.no ?_; conv => whnf))
          refine ⟨side_in (at_lt (by omega)), ?_⟩
          conv => whnf
          repeat (first | (refine br.yes ?_; conv => whnf) | (refine br.no ?_; conv => whnf))
          rw [row_put]
          conv => whnf
          repeat (first | (refine br.yes ?_; conv => whnf) | (refine br.no ?_; conv => whnf))
          refine ⟨side_in ⟨by omega, by omega⟩, ?_⟩
          conv => whnf
          repeat (first | (refine br.yes ?_; conv => whnf) | (refine br.no ?_; conv => whnf))
          rw [row_get hi]
          conv => whnf
          repeat (first | (refine br.yes ?_; conv => whnf) | (refine br.no ?_; conv => whnf))
          refine ⟨side_in (at_lt (by omega)), ?_⟩
          conv => whnf
          repeat (first | (refine br.yes ?_; conv => whnf) | (refine br.no ?_; conv => whnf))
          rw [row_put]
          conv => whnf
          repeat (first | (refine br.yes ?_; conv => whnf) | (refine br.no ?_; conv => whnf))
          rw [swp_eq]
          refine k1 _ _ (hR (by omega) _ _ _ _ ?hw2 trim_no ⟨Go.Sort.swp d' (first + root) (first + (2 * root + 1 + 1)), (2 * root + 1 + 1), rfl, by omega, ?_, rfl⟩)
          case hw2 =>
            repeat (first | exact weak_nil | refine weak_same ?_ | refine weak_junk ?_)
          rw [Go.Sort.siftDown, dif_neg h1'] at hd
          rw [if_pos hs, if_neg (by rw [hl]; simp), dif_pos (by omega)] at hd
          exact hd
      · have hs : ¬ (decide (2 * root + 1 + 1 < hi') && Go.Sort.ltInt d'[first + (2 * root + 1)]! d'[first + (2 * root + 1) + 1]!) = true := by simp [h3]
        conv => whnf
        repeat (first | (refine br.yes ?_; conv => whnf) | (refine br.no ?_; conv => whnf))
        have hc0 : (2 * root + 1) < hi' := by omega
        rw [show arI .add .i64 ((first : Nat) : Int) ((root : Nat) : Int) = ((first + root : Nat) : Int) from add_nat (by omega) (by omega)]
        refine ⟨side_in ⟨by omega, by omega⟩, ?_⟩
        conv => whnf
        repeat (first | (refine br.yes ?_; conv => whnf) | (refine br.no ?_; conv => whnf))
        rw [row_get hi]
        conv => whnf
        repeat (first | (refine br.yes ?_; conv => whnf) | (refine br.no ?_; conv => whnf))
        refine ⟨side_in (at_lt (by omega)), ?_⟩
        rw [row_nth]
        conv => whnf
        repeat (first | (refine br.yes ?_; conv => whnf) | (refine br.no ?_; conv => whnf))
        rw [show arI .add .i64 ((first : Nat) : Int) (((2 * root + 1) : Nat) : Int) = ((first + (2 * root + 1) : Nat) : Int) from add_nat (by omega) (by omega)]
        refine ⟨side_in ⟨by omega, by omega⟩, ?_⟩
        conv => whnf
        repeat (first | (refine br.yes ?_; conv => whnf) | (refine br.no ?_; conv => whnf))
        rw [row_get hi]
        conv => whnf
        repeat (first | (refine br.yes ?_; conv => whnf) | (refine br.no ?_; conv => whnf))
        refine ⟨side_in (at_lt (by omega)), ?_⟩
        rw [row_nth]
        conv => whnf
        repeat (first | (refine br.yes ?_; conv => whnf) | (refine br.no ?_; conv => whnf))
        refine q_keep (AV.bool (Go.Sort.ltInt d'[first + root]! d'[first + (2 * root + 1)]!)) (fun K' h => c_Less h) ?_
        conv => whnf
        repeat (first | (refine br.yes ?_; conv => whnf) | (refine br.no ?_; conv => whnf))
        refine br_intro (fun g4 => ?_) (fun g4 => ?_)
        · have hl := notB_t g4
          conv => whnf
          repeat (first | (refine br.yes ?_; conv => whnf) | (refine br.no ?_; conv => whnf))
          refine k2 _ _ ?_
          conv => whnf
          repeat (first | (refine br.yes ?_; conv => whnf) | (refine br.no ?_; conv => whnf))
          have : d' = T := by
            rw [Go.Sort.siftDown, dif_neg h1'] at hd
            rw [if_neg hs, if_pos (by rw [hl]; rfl)] at hd
            exact hd
          rw [this]
          exact hK
        · have hl := notB_f g4
          conv => whnf
          repeat (first | (refine br.yes ?_; conv => whnf) | (refine br.no ?_; conv => whnf))
          rw [show arI .add .i64 ((first : Nat) : Int) (((2 * root + 1) : Nat) : Int) = ((first + (2 * root + 1) : Nat) : Int) from add_nat (by omega) (by omega)]
          refine ⟨side_in ⟨by omega, by omega⟩, ?_⟩
          conv => whnf
          repeat (first | (refine br.yes ?_; conv => whnf) | (refine br.no ?_; conv => whnf))
          rw [row_get hi]
          conv => whnf
          repeat (first | (refine br.yes ?_; conv => whnf) | (refine br.no ?_; conv => whnf))
          refine ⟨side_in (at_lt (by omega)), ?_⟩
          rw [row_nth]
          conv => whnf
          repeat (first | (refine br.yes ?_; conv => whnf) | (refine br.no ?_; conv => whnf))
          rw [show arI .add .i64 ((first : Nat) : Int) ((root : Nat) : Int) = ((first + root : Nat) : Int) from add_nat (by omega) (by omega)]
          refine ⟨side_in ⟨by omega, by omega⟩, ?_⟩
          conv => whnf
          repeat (first | (refine br.yes ?_; conv => whnf) | (refine br.no ?_; conv => whnf))
          rw [row_get hi]
          conv => whnf
          repeat (first | (refine br.yes ?_; conv => whnf) | (refine br.no ?_; conv => whnf))
          refine ⟨side_in (at_lt (by omega)), ?_⟩
          rw [row_nth]
          conv => whnf
          repeat (first | (refine br.yes ?_; conv => whnf) | (refine br.no ?_; conv => whnf))
          refine ⟨side_in ⟨by omega, by omega⟩, ?_⟩
          conv => whnf
          repeat (first | (refine br.yes ?_; conv => whnf) | (refine br.no ?_; conv => whnf))
          rw [row_get hi]
          conv => whnf
          repeat (first | (refine br.yes ?_; conv => whnf) | (refine br.no ?_; conv => whnf))
          refine ⟨side_in (at_lt (by omega)), ?_⟩
          conv => whnf
          repeat (first | (refine br.yes ?_; conv => whnf) | (refine br.no ?_; conv => whnf))
          rw [row_put]
          conv => whnf
          repeat (first | (refine br.yes ?_; conv => whnf) | (refine br.no ?_; conv => whnf))
          refine ⟨side_in ⟨by omega, by omega⟩, ?_⟩
          conv => whnf
          repeat (first | (refine br.yes ?_; conv => whnf) | (refine br.no ?_; conv => whnf))
          rw [row_get hi]
          conv => whnf
          repeat (first | (refine br.yes ?_; conv => whnf) | (refine br.no ?_; conv => whnf))
          refine ⟨side_in (at_lt (by omega)), ?_⟩
          conv => whnf
          repeat (first | (refine br.yes ?_; conv => whnf) | (refine br.no ?_; conv => whnf))
          rw [row_put]
          conv => whnf
          repeat (first | (refine br.yes ?_; conv => whnf) | (refine br.no ?_; conv => whnf))
          rw [swp_eq]
          refine k1 _ _ (hR (by omega) _ _ _ _ ?hw3 trim_no ⟨Go.Sort.swp d' (first + root) (first + (2 * root + 1)), (2 * root + 1), rfl, by omega, ?_, rfl⟩)
          case hw3 =>
            repeat (first | exact weak_nil | refine weak_same ?_ | refine weak_junk ?_)
          rw [Go.Sort.siftDown, dif_neg h1'] at hd
          rw [if_neg hs, if_neg (by rw [hl]; simp)] at hd
          exact hd
    · have h2' : ¬ 2 * root + 1 + 1 < hi' := by rw [lss_nat] at h2; simpa using h2
      have hs : ¬ (decide (2 * root + 1 + 1 < hi') && Go.Sort.ltInt d'[first + (2 * root + 1)]! d'[first + (2 * root + 1) + 1]!) = true := by simp [h2']
      conv => whnf
      repeat (first | (refine br.yes ?_; conv => whnf) | (refine br.no ?_; conv => whnf))
      have hc0 : (2 * root + 1) < hi' := by omega
      rw [show arI .add .i64 ((first : Nat) : Int) ((root : Nat) : Int) = ((first + root : Nat) : Int) from add_nat (by omega) (by omega)]
      refine ⟨side_in ⟨by omega, by omega⟩, ?_⟩
      conv => whnf
      repeat (first | (refine br.yes ?_; conv => whnf) | (refine br.no ?_; conv => whnf))
      rw [row_get hi]
      conv => whnf
      repeat (first | (refine br.yes ?_; conv => whnf) | (refine br.no ?_; conv => whnf))
      refine ⟨side_in (at_lt (by omega)), ?_⟩
      rw [row_nth]
      conv => whnf
      repeat (first | (refine br.yes ?_; conv => whnf) | (refine br.no ?_; conv => whnf))
      rw [show arI .add .i64 ((first : Nat) : Int) (((2 * root + 1) : Nat) : Int) = ((first + (2 * root + 1) : Nat) : Int) from add_nat (by omega) (by omega)]
      refine ⟨side_in ⟨by omega, by omega⟩, ?_⟩
      conv => whnf
      repeat (first | (refine br.yes ?_; conv => whnf) | (refine br.no ?_; conv => whnf))
      rw [row_get hi]
      conv => whnf
      repeat (first | (refine br.yes ?_; conv => whnf) | (refine br.no ?_; conv => whnf))
      refine ⟨side_in (at_lt (by omega)), ?_⟩
      rw [row_nth]
      conv => whnf
      repeat (first | (refine br.yes ?_; conv => whnf) | (refine br.no ?_; conv => whnf))
      refine q_keep (AV.bool (Go.Sort.ltInt d'[first + root]! d'[first + (2 * root + 1)]!)) (fun K' h => c_Less h) ?_
      conv => whnf
      repeat (first | (refine br.yes ?_; conv => whnf) | (refine br.no ?_; conv => whnf))
      refine br_intro (fun g4 => ?_) (fun g4 => ?_)
      · have hl := notB_t g4
        conv => whnf
        repeat (first | (refine br.yes ?_; conv => whnf) | (refine br.no ?_; conv => whnf))
        refine k2 _ _ ?_
        conv => whnf
        repeat (first | (refine br.yes ?_; conv => whnf) | (refine br.no ?_; conv => whnf))
        have : d' = T := by
          rw [Go.Sort.siftDown, dif_neg h1'] at hd
          rw [if_neg hs, if_pos (by rw [hl]; rfl)] at hd
          exact hd
        rw [this]
        exact hK
      · have hl := notB_f g4
        conv => whnf
        repeat (first | (refine br.yes ?_; conv => whnf) | (refine br.no ?_; conv => whnf))
        rw [show arI .add .i64 ((first : Nat) : Int) (((2 * root + 1) : Nat) : Int) = ((first + (2 * root + 1) : Nat) : Int) from add_nat (by omega) (by omega)]
        refine ⟨side_in ⟨by omega, by omega⟩, ?_⟩
        conv => whnf
        repeat (first | (refine br.yes ?_; conv => whnf) | (refine br.no ?_; conv => whnf))
        rw [row_get hi]
        conv => whnf
        repeat (first | (refine br.yes ?_; conv => whnf) | (refine br.no ?_; conv => whnf))
        refine ⟨side_in (at_lt (by omega)), ?_⟩
        rw [row_nth]
        conv => whnf
        repeat (first | (refine br.yes ?_; conv => whnf) | (refine br.no ?_; conv => whnf))
        rw [show arI .add .i64 ((first : Nat) : Int) ((root : Nat) : Int) = ((first + root : Nat) : Int) from add_nat (by omega) (by omega)]
        refine ⟨side_in ⟨by omega, by omega⟩, ?_⟩
        conv => whnf
        repeat (first | (refine br.yes ?_; conv => whnf) | (refine br.no ?_; conv => whnf))
        rw [row_get hi]
        conv => whnf
        repeat (first | (refine br.yes ?_; conv => whnf) | (refine br.no ?_; conv => whnf))
        refine ⟨side_in (at_lt (by omega)), ?_⟩
        rw [row_nth]
        conv => whnf
        repeat (first | (refine br.yes ?_; conv => whnf) | (refine br.no ?_; conv => whnf))
        refine ⟨side_in ⟨by omega, by omega⟩, ?_⟩
        conv => whnf
        repeat (first | (refine br.yes ?_; conv => whnf) | (refine br.no ?_; conv => whnf))
        rw [row_get hi]
        conv => whnf
        repeat (first | (refine br.yes ?_; conv => whnf) | (refine br.no ?_; conv => whnf))
        refine ⟨side_in (at_lt (by omega)), ?_⟩
        conv => whnf
        repeat (first | (refine br.yes ?_; conv => whnf) | (refine br.no ?_; conv => whnf))
        rw [row_put]
        conv => whnf
        repeat (first | (refine br.yes ?_; conv => whnf) | (refine br.no ?_; conv => whnf))
        refine ⟨side_in ⟨by omega, by omega⟩, ?_⟩
        conv => whnf
        repeat (first | (refine br.yes ?_; conv => whnf) | (refine br.no ?_; conv => whnf))
        rw [row_get hi]
        conv => whnf
        repeat (first | (refine br.yes ?_; conv => whnf) | (refine br.no ?_; conv => whnf))
        refine ⟨side_in (at_lt (by omega)), ?_⟩
        conv => whnf
        repeat (first | (refine br.yes ?_; conv => whnf) | (refine br.no ?_; conv => whnf))
        rw [row_put]
        conv => whnf
        repeat (first | (refine br.yes ?_; conv => whnf) | (refine br.no ?_; conv => whnf))
        rw [swp_eq]
        refine k1 _ _ (hR (by omega) _ _ _ _ ?hw4 trim_no ⟨Go.Sort.swp d' (first + root) (first + (2 * root + 1)), (2 * root + 1), rfl, by omega, ?_, rfl⟩)
        case hw4 =>
          repeat (first | exact weak_nil | refine weak_same ?_ | refine weak_junk ?_)
        rw [Go.Sort.siftDown, dif_neg h1'] at hd
        rw [if_neg hs, if_neg (by rw [hl]; simp)] at hd
        exact hd
theorem sub_nat_i {a b : Nat} (hb : b ≤ a) (ha : a ≤ 1000000) : arI .sub .i64 (a : Int) (b : Int) = ((a - b : Nat) : Int) := by
  rw [arI_sub, wrap_fits (by omega) (by omega)]; omega
theorem half_i {a : Nat} (ha : a ≤ 1000000) : arI .quo .i64 (a : Int) 2 = ((a / 2 : Nat) : Int) := by
  have h : arI .quo .i64 (a : Int) ((2 : Nat) : Int) = ((a / 2 : Nat) : Int) := by
    have h2 : a / 2 ≤ a := Nat.div_le_self a 2
    rw [arI_quo, ← Int.ofNat_tdiv]
    generalize a / 2 = q at h2
    exact wrap_fits (by omega) (by omega)
  exact h
theorem sub_low {k : Nat} (h : k ≤ 1000000) : arI .sub .i64 (k : Int) 1 = (k : Int) - 1 := by rw [arI_sub, wrap_fits (by omega) (by omega)]
theorem geq_low {k : Nat} : cmI .geq ((k : Int) - 1) 0 = decide (0 < k) := by rw [cmI_geq]; simp; omega
set_option maxRecDepth 20000 in
set_option maxHeartbeats 1600000 in
theorem c_heap {a b n c r i : Nat} {e : Ent} {d : Array Int} (hi : getE m i = some e) (hn : n ≤ 400000) (hb : b ≤ n) (hab : a < b)
    (hK : K (.tup []) (rowM m i n r (Go.Sort.heapSort Go.Sort.ltInt d a b))) : CallLeaf Try.prog w0 77 [.sl i [] 1 0 n c, AV.int a, AV.int b] (rowM m i n r d) K := by
  unfold Go.Sort.heapSort at hK
  obtain ⟨T, hT⟩ : ∃ T, T = Go.Sort.heapBuild Go.Sort.ltInt (b - a) a ((b - a - 1) / 2 + 1) d := ⟨_, rfl⟩
  rw [← hT] at hK
  obtain ⟨V, hV⟩ : ∃ V, V = Go.Sort.heapPop Go.Sort.ltInt a (b - a) T := ⟨_, rfl⟩
  rw [← hV] at hK
  refine fn_go hmix h77 ?_
  conv => whnf
  repeat (first | (refine br.yes ?_; conv => whnf) | (refine br.no ?_; conv => whnf))
  rw [sub_nat_i (by omega) (by omega), sub_one (by omega) (by omega)]
  refine ⟨side_in (by decide), ?_⟩
  rw [half_i (by omega)]
  conv => whnf
  repeat (first | (refine br.yes ?_; conv => whnf) | (refine br.no ?_; conv => whnf))
  refine loop_opq ((b - a - 1) / 2 + 1) (fun q ts M => ∃ d' k, M = rowM m i n r d' ∧ k + q = (b - a - 1) / 2 + 1 ∧ Go.Sort.heapBuild Go.Sort.ltInt (b - a) a k d' = T ∧ ts = [.sl i [] 1 0 n c, AV.int a, AV.int b, .junk, .junk, .junk, AV.int a, AV.int 0, AV.int (b - a : Nat), AV.int ((k : Int) - 1), .junk, .junk, .junk, .junk, .junk, .junk, .junk, .junk, .junk, .junk, .junk, .junk, .junk, .junk, .junk, .junk, .junk, .junk, .junk, .junk, .junk, .junk, .junk, .junk, .junk, .junk, .junk, .junk, .junk, .junk, .junk, .junk, .junk, .junk, .junk, .junk, .junk, .junk, .junk, .junk, .junk, .junk, .junk, .junk, .junk, .junk]) [.sl i [] 1 0 n c, AV.int a, AV.int b, .junk, .junk, .junk, AV.int a, AV.int 0, AV.int (b - a : Nat), AV.int ((b - a - 1) / 2 : Nat), .junk, .junk, .junk, .junk, .junk, .junk, .junk, .junk, .junk, .junk, .junk, .junk, .junk, .junk, .junk, .junk, .junk, .junk, .junk, .junk, .junk, .junk, .junk, .junk, .junk, .junk, .junk, .junk, .junk, .junk, .junk, .junk, .junk, .junk, .junk, .junk, .junk, .junk, .junk, .junk, .junk, .junk, .junk, .junk, .junk, .junk] _ ?hw trim_no ⟨d, (b - a - 1) / 2 + 1, rfl, rfl, hT.symm, ?_⟩ ?_
  case hw =>
    repeat (first | exact weak_nil | refine weak_same ?_ | refine weak_junk ?_)
  · have e1 : ((((b - a - 1) / 2 + 1 : Nat) : Int) - 1) = (((b - a - 1) / 2 : Nat) : Int) := by omega
    rw [e1]
  rintro q hq ts m' ⟨d', k, rfl, hk, hd, rfl⟩ R hR KK k1 k2 k3
  conv => whnf
  repeat (first | (refine br.yes ?_; conv => whnf) | (refine br.no ?_; conv => whnf))
  refine br_intro (fun h1 => ?_) (fun h1 => ?_)
  · have h1' : 0 < k := by rw [geq_low] at h1; simpa using h1
    obtain ⟨k, rfl⟩ : ∃ k', k = k' + 1 := ⟨k - 1, by omega⟩
    have e2 : (((k + 1 : Nat) : Int) - 1) = (k : Int) := by omega
    rw [e2]
    conv => whnf
    repeat (first | (refine br.yes ?_; conv => whnf) | (refine br.no ?_; conv => whnf))
    refine c_sift hi hn (by omega) (by omega) ?_
    conv => whnf
    repeat (first | (refine br.yes ?_; conv => whnf) | (refine br.no ?_; conv => whnf))
    rw [sub_low (by omega)]
    refine k1 _ _ (hR (by omega) _ _ _ _ ?hw2 trim_no ⟨_, k, rfl, by omega, hd, rfl⟩)
    case hw2 =>
      repeat (first | exact weak_nil | refine weak_same ?_ | refine weak_junk ?_)
  · have h1' : k = 0 := by rw [geq_low] at h1; simp at h1; omega
    subst h1'
    have hd : d' = T := hd
    subst hd
    conv => whnf
    repeat (first | (refine br.yes ?_; conv => whnf) | (refine br.no ?_; conv => whnf))
    refine k3 0 _ _ ?_
    conv => whnf
    repeat (first | (refine br.yes ?_; conv => whnf) | (refine br.no ?_; conv => whnf))
    rw [sub_one (by omega) (by omega)]
    refine loop_opq (b - a) (fun q ts M => ∃ d2 k, M = rowM m i n r d2 ∧ k + q = b - a ∧ Go.Sort.heapPop Go.Sort.ltInt a k d2 = V ∧ ts = [.sl i [] 1 0 n c, AV.int a, AV.int b, .junk, .junk, .junk, AV.int a, AV.int 0, AV.int (b - a : Nat), .junk, AV.int ((k : Int) - 1), .junk, .junk, .junk, .junk, .junk, .junk, .junk, .junk, .junk, .junk, .junk, .junk, .junk, .junk, .junk, .junk, .junk, .junk, .junk, .junk, .junk, .junk, .junk, .junk, .junk, .junk, .junk, .junk, .junk, .junk, .junk, .junk, .junk, .junk, .junk, .junk, .junk, .junk, .junk, .junk, .junk, .junk, .junk, .junk, .junk]) [.sl i [] 1 0 n c, AV.int a, AV.int b, .junk, .junk, .junk, AV.int a, AV.int 0, AV.int (b - a : Nat), .junk, AV.int (b - a - 1 : Nat), .junk, .junk, .junk, .junk, .junk, .junk, .junk, .junk, .junk, .junk, .junk, .junk, .junk, .junk, .junk, .junk, .junk, .junk, .junk, .junk, .junk, .junk, .junk, .junk, .junk, .junk, .junk, .junk, .junk, .junk, .junk, .junk, .junk, .junk, .junk, .junk, .junk, .junk, .junk, .junk, .junk, .junk, .junk, .junk, .junk] _ ?hw3 trim_no ⟨d', b - a, rfl, rfl, hV.symm, ?_⟩ ?_
    case hw3 =>
      repeat (first | exact weak_nil | refine weak_same ?_ | refine weak_junk ?_)
    · have e1 : (((b - a : Nat) : Int) - 1) = ((b - a - 1 : Nat) : Int) := by omega
      rw [e1]
    rintro p hp ts m' ⟨d2, k, rfl, hk2, hd2, rfl⟩ R2 hR2 KK2 j1 j2 j3
    conv => whnf
    repeat (first | (refine br.yes ?_; conv => whnf) | (refine br.no ?_; conv => whnf))
    refine br_intro (fun g1 => ?_) (fun g1 => ?_)
    · have g1' : 0 < k := by rw [geq_low] at g1; simpa using g1
      obtain ⟨k, rfl⟩ : ∃ k', k = k' + 1 := ⟨k - 1, by omega⟩
      have e2 : (((k + 1 : Nat) : Int) - 1) = (k : Int) := by omega
      rw [e2]
      conv => whnf
      repeat (first | (refine br.yes ?_; conv => whnf) | (refine br.no ?_; conv => whnf))
      rw [show arI .add .i64 ((a : Nat) : Int) ((k : Nat) : Int) = ((a + k : Nat) : Int) from add_nat (by omega) (by omega)]
      refine ⟨side_in ⟨by omega, by omega⟩, ?_⟩
      conv => whnf
      repeat (first | (refine br.yes ?_; conv => whnf) | (refine br.no ?_; conv => whnf))
      rw [row_get hi]
      conv => whnf
      repeat (first | (refine br.yes ?_; conv => whnf) | (refine br.no ?_; conv => whnf))
      refine ⟨side_in (at_lt (by omega)), ?_⟩
      rw [row_nth]
      conv => whnf
      repeat (first | (refine br.yes ?_; conv => whnf) | (refine br.no ?_; conv => whnf))
      refine ⟨side_in ⟨by omega, by omega⟩, ?_⟩
      conv => whnf
      repeat (first | (refine br.yes ?_; conv => whnf) | (refine br.no ?_; conv => whnf))
      rw [row_get hi]
      conv => whnf
      repeat (first | (refine br.yes ?_; conv => whnf) | (refine br.no ?_; conv => whnf))
      refine ⟨side_in (at_lt (by omega)), ?_⟩
      rw [row_nth]
      conv => whnf
      repeat (first | (refine br.yes ?_; conv => whnf) | (refine br.no ?_; conv => whnf))
      refine ⟨side_in ⟨by omega, by omega⟩, ?_⟩
      conv => whnf
      repeat (first | (refine br.yes ?_; conv => whnf) | (refine br.no ?_; conv => whnf))
      rw [row_get hi]
      conv => whnf
      repeat (first | (refine br.yes ?_; conv => whnf) | (refine br.no ?_; conv => whnf))
      refine ⟨side_in (at_lt (by omega)), ?_⟩
      conv => whnf
      repeat (first | (refine br.yes ?_; conv => whnf) | (refine br.no ?_; conv => whnf))
      rw [row_put]
      conv => whnf
      repeat (first | (refine br.yes ?_; conv => whnf) | (refine br.no ?_; conv => whnf))
      refine ⟨side_in ⟨by omega, by omega⟩, ?_⟩
      conv => whnf
      repeat (first | (refine br.yes ?_; conv => whnf) | (refine br.no ?_; conv => whnf))
      rw [row_get hi]
      conv => whnf
      repeat (first | (refine br.yes ?_; conv => whnf) | (refine br.no ?_; conv => whnf))
      refine ⟨side_in (at_lt (by omega)), ?_⟩
      conv => whnf
      repeat (first | (refine br.yes ?_; conv => whnf) | (refine br.no ?_; conv => whnf))
      rw [row_put]
      conv => whnf
      repeat (first | (refine br.yes ?_; conv => whnf) | (refine br.no ?_; conv => whnf))
      rw [swp_eq]
      refine c_sift (lo := 0) hi hn (by omega) (by omega) ?_
      conv => whnf
      repeat (first | (refine br.yes ?_; conv => whnf) | (refine br.no ?_; conv => whnf))
      rw [sub_low (by omega)]
      refine j1 _ _ (hR2 (by omega) _ _ _ _ ?hw4 trim_no ⟨_, k, rfl, by omega, hd2, rfl⟩)
      case hw4 =>
        repeat (first | exact weak_nil | refine weak_same ?_ | refine weak_junk ?_)
    · have g1' : k = 0 := by rw [geq_low] at g1; simp at g1; omega
      subst g1'
      have hd2 : d2 = V := hd2
      subst hd2
      conv => whnf
      repeat (first | (refine br.yes ?_; conv => whnf) | (refine br.no ?_; conv => whnf))
      refine j3 2 _ _ ?_
      conv => whnf
      repeat (first | (refine br.yes ?_; conv => whnf) | (refine br.no ?_; conv => whnf))
      exact hK
set_option maxRecDepth 20000 in
theorem c_reverse {a b n c r i : Nat} {e : Ent} {d : Array Int} (hi : getE m i = some e) (hn : n ≤ 400000) (hb : b ≤ n) (hab : a < b)
    (hK : K (.tup []) (rowM m i n r (Go.Sort.reverseRange d a b))) : CallLeaf Try.prog w0 80 [.sl i [] 1 0 n c, AV.int a, AV.int b] (rowM m i n r d) K := by
  unfold Go.Sort.reverseRange at hK
  obtain ⟨T, hT⟩ : ∃ T, T = Go.Sort.reverseLoop a (b - 1) d := ⟨_, rfl⟩
  rw [← hT] at hK
  refine fn_go hmix h80 ?_
  conv => whnf
  repeat (first | (refine br.yes ?_; conv => whnf) | (refine br.no ?_; conv => whnf))
  rw [sub_one (by omega) (by omega)]
  refine loop_opq n (fun k ts M => ∃ d' p q, M = rowM m i n r d' ∧ (k ≤ p ∧ p ≤ n ∧ q < n) ∧ Go.Sort.reverseLoop p q d' = T ∧ ts = [.sl i [] 1 0 n c, AV.int a, AV.int b, .junk, .junk, .junk, AV.int p, AV.int q, .junk, .junk, .junk, .junk, .junk, .junk, .junk, .junk, .junk, .junk, .junk, .junk, .junk, .junk, .junk, .junk, .junk, .junk, .junk, .junk, .junk, .junk, .junk, .junk]) _ _ ?hw trim_no ⟨d, a, b - 1, rfl, by omega, hT.symm, rfl⟩ ?_
  case hw =>
    repeat (first | exact weak_nil | refine weak_same ?_ | refine weak_junk ?_)
  rintro k hk ts m' ⟨d', p, q, rfl, hpq, hd, rfl⟩ R hR KK k1 k2 k3
  conv => whnf
  repeat (first | (refine br.yes ?_; conv => whnf) | (refine br.no ?_; conv => whnf))
  rw [lss_nat]
  refine br_intro (fun h1 => ?_) (fun h1 => ?_)
  · have h1' : p < q := by simpa using h1
    rw [Go.Sort.reverseLoop, if_pos h1'] at hd
    conv => whnf
    repeat (first | (refine br.yes ?_; conv => whnf) | (refine br.no ?_; conv => whnf))
    refine ⟨side_in ⟨by omega, by omega⟩, ?_⟩
    conv => whnf
    repeat (first | (refine br.yes ?_; conv => whnf) | (refine br.no ?_; conv => whnf))
    rw [row_get hi]
    conv => whnf
    repeat (first | (refine br.yes ?_; conv => whnf) | (refine br.no ?_; conv => whnf))
    refine ⟨side_in (at_lt (by omega)), ?_⟩
    rw [row_nth]
    conv => whnf
    repeat (first | (refine br.yes ?_; conv => whnf) | (refine br.no ?_; conv => whnf))
    refine ⟨side_in ⟨by omega, by omega⟩, ?_⟩
    conv => whnf
    repeat (first | (refine br.yes ?_; conv => whnf) | (refine br.no ?_; conv => whnf))
    rw [row_get hi]
    conv => whnf
    repeat (first | (refine br.yes ?_; conv => whnf) | (refine br.no ?_; conv => whnf))
    refine ⟨side_in (at_lt (by omega)), ?_⟩
    rw [row_nth]
    conv => whnf
    repeat (first | (refine br.yes ?_; conv => whnf) | (refine br.no ?_; conv => whnf))
    refine ⟨side_in ⟨by omega, by omega⟩, ?_⟩
    conv => whnf
    repeat (first | (refine br.yes ?_; conv => whnf) | (refine br.no ?_; conv => whnf))
    rw [row_get hi]
    conv => whnf
    repeat (first | (refine br.yes ?_; conv => whnf) | (refine br.no ?_; conv => whnf))
    refine ⟨side_in (at_lt (by omega)), ?_⟩
    conv => whnf
    repeat (first | (refine br.yes ?_; conv => whnf) | (refine br.no ?_; conv => whnf))
    rw [row_put]
    conv => whnf
    repeat (first | (refine br.yes ?_; conv => whnf) | (refine br.no ?_; conv => whnf))
    refine ⟨side_in ⟨by omega, by omega⟩, ?_⟩
    conv => whnf
    repeat (first | (refine br.yes ?_; conv => whnf) | (refine br.no ?_; conv => whnf))
    rw [row_get hi]
    conv => whnf
    repeat (first | (refine br.yes ?_; conv => whnf) | (refine br.no ?_; conv => whnf))
    refine ⟨side_in (at_lt (by omega)), ?_⟩
    conv => whnf
    repeat (first | (refine br.yes ?_; conv => whnf) | (refine br.no ?_; conv => whnf))
    rw [row_put]
    conv => whnf
    repeat (first | (refine br.yes ?_; conv => whnf) | (refine br.no ?_; conv => whnf))
    rw [swp_eq, add_one (by omega), sub_one (by omega) (by omega)]
    refine k1 _ _ (hR (by omega) _ _ _ _ ?hw2 trim_no ⟨_, p + 1, q - 1, rfl, by omega, hd, rfl⟩)
    case hw2 =>
      repeat (first | exact weak_nil | refine weak_same ?_ | refine weak_junk ?_)
  · have h1' : ¬ p < q := by simpa using h1
    rw [Go.Sort.reverseLoop, if_neg h1'] at hd
    subst hd
    conv => whnf
    repeat (first | (refine br.yes ?_; conv => whnf) | (refine br.no ?_; conv => whnf))
    refine k3 0 _ _ ?_
    conv => whnf
    repeat (first | (refine br.yes ?_; conv => whnf) | (refine br.no ?_; conv => whnf))
    exact hK
/-! the pivot: a count of swaps in a box of its own -/
@[irreducible] def swM (m : MS) (j rr s : Nat) : MS := setM m j ⟨true, AV.int s, rr⟩
theorem sw_get {j rr s : Nat} {e : Ent} (hj : getE m j = some e) : getE (swM m j rr s) j = some ⟨true, AV.int s, rr⟩ := by unfold swM; exact getE_set hj
theorem sw_row {i j rr s : Nat} {e : Ent} (hi : getE m i = some e) (hij : i ≠ j) : getE (swM m j rr s) i = some e := by
  unfold swM setM
  rw [getE_eq] at hi ⊢
  rw [List.getElem?_set_ne (Ne.symm hij)]
  exact hi
theorem sw_put {j rr s s' : Nat} {k : MS → Prop} : setEK (swM m j rr s) j ⟨true, AV.int s', rr⟩ k = k (swM m j rr s') := by
  rw [setEK_M]
  unfold swM
  rw [set_set_ms]
def o2A (R : Nat × Nat × Nat) : AV := .tup [AV.int R.1, AV.int R.2.1]
set_option maxRecDepth 20000 in
theorem c_order2 {a b n c r i j rr s : Nat} {o : Bool} {e : Ent} {d : Array Int} (hi : getE m i = some ⟨o, .ai n d.toList, r⟩) (hj : getE m j = some e) (hij : i ≠ j) (ha : a < n) (hb : b < n) (hs : s ≤ 1000)
    (hK : K (o2A (Go.Sort.order2 Go.Sort.ltInt d a b s)) (swM m j rr (Go.Sort.order2 Go.Sort.ltInt d a b s).2.2)) : CallLeaf Try.prog w0 93 [.sl i [] 1 0 n c, AV.int a, AV.int b, .ptr j []] (swM m j rr s) K := by
  unfold Go.Sort.order2 at hK
  refine fn_go hmix h93 ?_
  conv => whnf
  repeat (first | (refine br.yes ?_; conv => whnf) | (refine br.no ?_; conv => whnf))
  refine ⟨side_in ⟨by omega, by omega⟩, ?_⟩
  conv => whnf
  repeat (first | (refine br.yes ?_; conv => whnf) | (refine br.no ?_; conv => whnf))
  rw [sw_row hi hij]
  conv => whnf
  repeat (first | (refine br.yes ?_; conv => whnf) | (refine br.no ?_; conv => whnf))
  refine ⟨side_in (at_lt (by omega)), ?_⟩
  rw [row_nth]
  conv => whnf
  repeat (first | (refine br.yes ?_; conv => whnf) | (refine br.no ?_; conv => whnf))
  refine ⟨side_in ⟨by omega, by omega⟩, ?_⟩
  conv => whnf
  repeat (first | (refine br.yes ?_; conv => whnf) | (refine br.no ?_; conv => whnf))
  rw [sw_row hi hij]
  conv => whnf
  repeat (first | (refine br.yes ?_; conv => whnf) | (refine br.no ?_; conv => whnf))
  refine ⟨side_in (at_lt (by omega)), ?_⟩
  rw [row_nth]
  conv => whnf
  repeat (first | (refine br.yes ?_; conv => whnf) | (refine br.no ?_; conv => whnf))
  refine q_keep (AV.bool (Go.Sort.ltInt d[b]! d[a]!)) (fun K' h => c_Less h) ?_
  conv => whnf
  repeat (first | (refine br.yes ?_; conv => whnf) | (refine br.no ?_; conv => whnf))
  refine br_intro (fun g => ?_) (fun g => ?_)
  · rw [if_pos g] at hK
    conv => whnf
    repeat (first | (refine br.yes ?_; conv => whnf) | (refine br.no ?_; conv => whnf))
    rw [sw_get hj]
    conv => whnf
    repeat (first | (refine br.yes ?_; conv => whnf) | (refine br.no ?_; conv => whnf))
    rw [sw_get hj]
    conv => whnf
    repeat (first | (refine br.yes ?_; conv => whnf) | (refine br.no ?_; conv => whnf))
    rw [add_one (by omega)]
    show setEK _ _ ⟨true, AV.int ((s + 1 : Nat) : Int), rr⟩ _
    rw [sw_put]
    conv => whnf
    repeat (first | (refine br.yes ?_; conv => whnf) | (refine br.no ?_; conv => whnf))
    exact hK
  · rw [if_neg (by rw [g]; simp)] at hK
    conv => whnf
    repeat (first | (refine br.yes ?_; conv => whnf) | (refine br.no ?_; conv => whnf))
    exact hK
theorem order2_lt {d : Array Int} {a b s n : Nat} (ha : a < n) (hb : b < n) : (Go.Sort.order2 Go.Sort.ltInt d a b s).1 < n ∧ (Go.Sort.order2 Go.Sort.ltInt d a b s).2.1 < n ∧ (Go.Sort.order2 Go.Sort.ltInt d a b s).2.2 ≤ s + 1 := by
  unfold Go.Sort.order2
  split <;> simp <;> omega
set_option maxRecDepth 20000 in
theorem c_median {a b q n c r i j rr s : Nat} {o : Bool} {e : Ent} {d : Array Int} (hi : getE m i = some ⟨o, .ai n d.toList, r⟩) (hj : getE m j = some e) (hij : i ≠ j) (ha : a < n) (hb : b < n) (hq : q < n) (hs : s ≤ 900)
    (hK : K (AV.int (Go.Sort.median Go.Sort.ltInt d a b q s).1) (swM m j rr (Go.Sort.median Go.Sort.ltInt d a b q s).2)) : CallLeaf Try.prog w0 91 [.sl i [] 1 0 n c, AV.int a, AV.int b, AV.int q, .ptr j []] (swM m j rr s) K := by
  unfold Go.Sort.median at hK
  obtain ⟨f1, f2, f3⟩ := order2_lt (d := d) (s := s) ha hb
  obtain ⟨g1, g2, g3⟩ := order2_lt (d := d) (s := (Go.Sort.order2 Go.Sort.ltInt d a b s).2.2) f2 hq
  refine fn_go hmix h91 ?_
  conv => whnf
  repeat (first | (refine br.yes ?_; conv => whnf) | (refine br.no ?_; conv => whnf))
  refine c_order2 hi hj hij ha hb (by omega) ?_
  simp only at hK
  generalize Go.Sort.order2 Go.Sort.ltInt d a b s = R1 at f1 f2 f3 g1 g2 g3 hK ⊢
  unfold o2A
  conv => whnf
  repeat (first | (refine br.yes ?_; conv => whnf) | (refine br.no ?_; conv => whnf))
  refine c_order2 hi hj hij f2 hq (by omega) ?_
  generalize Go.Sort.order2 Go.Sort.ltInt d R1.2.1 q R1.2.2 = R2 at g1 g2 g3 hK ⊢
  unfold o2A
  conv => whnf
  repeat (first | (refine br.yes ?_; conv => whnf) | (refine br.no ?_; conv => whnf))
  refine c_order2 hi hj hij f1 g1 (by omega) ?_
  generalize Go.Sort.order2 Go.Sort.ltInt d R1.1 R2.1 R2.2.2 = R3 at hK ⊢
  unfold o2A
  conv => whnf
  repeat (first | (refine br.yes ?_; conv => whnf) | (refine br.no ?_; conv => whnf))
  exact hK
theorem c_adjacent {a n c r i j rr s : Nat} {o : Bool} {e : Ent} {d : Array Int} (hi : getE m i = some ⟨o, .ai n d.toList, r⟩) (hj : getE m j = some e) (hij : i ≠ j) (hn : n ≤ 400000) (ha : 0 < a) (hb : a + 1 < n) (hs : s ≤ 900)
    (hK : K (AV.int (Go.Sort.medianAdjacent Go.Sort.ltInt d a s).1) (swM m j rr (Go.Sort.medianAdjacent Go.Sort.ltInt d a s).2)) : CallLeaf Try.prog w0 90 [.sl i [] 1 0 n c, AV.int a, .ptr j []] (swM m j rr s) K := by
  unfold Go.Sort.medianAdjacent at hK
  refine fn_go hmix h90 ?_
  conv => whnf
  repeat (first | (refine br.yes ?_; conv => whnf) | (refine br.no ?_; conv => whnf))
  rw [sub_one (by omega) (by omega), add_one (by omega)]
  refine c_median hi hj hij (by omega) (by omega) (by omega) (by omega) ?_
  conv => whnf
  repeat (first | (refine br.yes ?_; conv => whnf) | (refine br.no ?_; conv => whnf))
  exact hK
theorem quart_i {a : Nat} (ha : a ≤ 1000000) : arI .quo .i64 (a : Int) 4 = ((a / 4 : Nat) : Int) := by
  have h : arI .quo .i64 (a : Int) ((4 : Nat) : Int) = ((a / 4 : Nat) : Int) := by
    have h2 : a / 4 ≤ a := Nat.div_le_self a 4
    rw [arI_quo, ← Int.ofNat_tdiv]
    generalize a / 4 = q at h2
    exact wrap_fits (by omega) (by omega)
  exact h
theorem mul_1i {a : Nat} (ha : a ≤ 1000000) : arI .mul .i64 (a : Int) 1 = ((a * 1 : Nat) : Int) := by rw [arI_mul, wrap_fits (by omega) (by omega)]; omega
theorem mul_2i {a : Nat} (ha : a ≤ 1000000) : arI .mul .i64 (a : Int) 2 = ((a * 2 : Nat) : Int) := by rw [arI_mul, wrap_fits (by omega) (by omega)]; omega
theorem mul_3i {a : Nat} (ha : a ≤ 1000000) : arI .mul .i64 (a : Int) 3 = ((a * 3 : Nat) : Int) := by rw [arI_mul, wrap_fits (by omega) (by omega)]; omega
theorem sw_back {m : MS} {e : Ent} {rr s : Nat} : (swM (m ++ [e]) m.length rr s).take m.length = m := by
  unfold swM setM
  rw [List.take_set_of_le (Nat.le_refl _)]
  simp
theorem sw_self {m : MS} {rr s : Nat} : m ++ [⟨true, AV.int s, rr⟩] = swM (m ++ [⟨true, AV.int s, rr⟩]) m.length rr s := by
  unfold swM
  rw [setM_self (getE_last)]
theorem geq_8 {a : Nat} : cmI .geq (a : Int) 8 = decide (8 ≤ a) := geq_nat (b := 8)
theorem geq_50 {a : Nat} : cmI .geq (a : Int) 50 = decide (50 ≤ a) := geq_nat (b := 50)
theorem median_lt {d : Array Int} {a b q s n : Nat} (ha : a < n) (hb : b < n) (hq : q < n) : (Go.Sort.median Go.Sort.ltInt d a b q s).1 < n ∧ (Go.Sort.median Go.Sort.ltInt d a b q s).2 ≤ s + 3 := by
  unfold Go.Sort.median
  simp only
  have h1 := order2_lt (d := d) (s := s) ha hb
  generalize Go.Sort.order2 Go.Sort.ltInt d a b s = R1 at h1 ⊢
  have h2 := order2_lt (d := d) (s := R1.2.2) h1.2.1 hq
  generalize Go.Sort.order2 Go.Sort.ltInt d R1.2.1 q R1.2.2 = R2 at h2 ⊢
  have h3 := order2_lt (d := d) (s := R2.2.2) h1.1 h2.1
  generalize Go.Sort.order2 Go.Sort.ltInt d R1.1 R2.1 R2.2.2 = R3 at h3 ⊢
  exact ⟨h3.2.1, by omega⟩
theorem adjacent_lt {d : Array Int} {a s n : Nat} (ha : a + 1 < n) : (Go.Sort.medianAdjacent Go.Sort.ltInt d a s).1 < n ∧ (Go.Sort.medianAdjacent Go.Sort.ltInt d a s).2 ≤ s + 3 := by
  unfold Go.Sort.medianAdjacent
  exact median_lt (by omega) (by omega) (by omega)
/-- the answer off the raw pivot -/
def pivA (R : Nat × Nat) : AV := .tup [AV.int R.1, AV.int (Go.Sort.hintCode (Go.Sort.hintOf R.2))]
theorem pivA_0 {R : Nat × Nat} (h : R.2 = 0) : pivA R = .tup [AV.int R.1, AV.int 1] := by unfold pivA Go.Sort.hintOf; rw [h]; rfl
theorem pivA_12 {R : Nat × Nat} (h : R.2 = 12) : pivA R = .tup [AV.int R.1, AV.int 2] := by unfold pivA Go.Sort.hintOf; rw [h]; rfl
theorem pivA_u {R : Nat × Nat} (h : ¬ R.2 = 0) (h2 : ¬ R.2 = 12) : pivA R = .tup [AV.int R.1, AV.int 0] := by unfold pivA Go.Sort.hintOf; rw [if_neg h, if_neg h2]; rfl
set_option maxRecDepth 20000 in
set_option maxHeartbeats 1600000 in
theorem c_choose_small {a b n c r i : Nat} {o : Bool} {d : Array Int} (hi0 : getE m i = some ⟨o, .ai n d.toList, r⟩) (hn : n ≤ 400000) (hb : b ≤ n) (hab : a + 12 < b) (hs : ¬ b - a ≥ 50)
    (hK : K (pivA (Go.Sort.rawPivot Go.Sort.ltInt d a b)) m) : CallLeaf Try.prog w0 79 [.sl i [] 1 0 n c, AV.int a, AV.int b] m K := by
  have him : i < m.length := by rw [getE_eq] at hi0; exact getElem?_lt hi0
  have hi : getE (m ++ [⟨true, AV.int (0 : Nat), 0⟩]) i = some ⟨o, .ai n d.toList, r⟩ := getE_left hi0
  have hj : getE (m ++ [⟨true, AV.int (0 : Nat), 0⟩]) m.length = some ⟨true, AV.int (0 : Nat), 0⟩ := getE_last
  have hij : i ≠ m.length := by omega
  refine call_keep ?_
  unfold Go.Sort.rawPivot at hK
  rw [if_pos (show b - a ≥ 8 by omega)] at hK
  refine fn_cut hmix h79 ?_
  conv => whnf
  repeat (first | (refine br.yes ?_; conv => whnf) | (refine br.no ?_; conv => whnf))
  refine AW.cut ?_
  conv => whnf
  repeat (first | (refine br.yes ?_; conv => whnf) | (refine br.no ?_; conv => whnf))
  refine AW.cut ?_
  conv => whnf
  repeat (first | (refine br.yes ?_; conv => whnf) | (refine br.no ?_; conv => whnf))
  rw [sub_nat_i (by omega) (by omega)]
  refine AW.cut ?_
  conv => whnf
  repeat (first | (refine br.yes ?_; conv => whnf) | (refine br.no ?_; conv => whnf))
  rw [newK_eq, show (⟨true, .raw (.int .i64 0), 0⟩ : Ent) = ⟨true, AV.int (0 : Nat), 0⟩ from rfl, sw_self]
  conv => whnf
  repeat (first | (refine br.yes ?_; conv => whnf) | (refine br.no ?_; conv => whnf))
  refine AW.cut ?_
  conv => whnf
  repeat (first | (refine br.yes ?_; conv => whnf) | (refine br.no ?_; conv => whnf))
  refine ⟨side_in (by decide), ?_⟩
  rw [quart_i (by omega)]
  generalize hq : (b - a) / 4 = q at hK ⊢
  have hq4 : 4 * q ≤ b - a ∧ b - a < 4 * q + 4 := by omega
  conv => whnf
  repeat (first | (refine br.yes ?_; conv => whnf) | (refine br.no ?_; conv => whnf))
  rw [mul_1i (by omega)]
  rw [show arI .add .i64 ((a : Nat) : Int) (((q * 1) : Nat) : Int) = ((a + (q * 1) : Nat) : Int) from add_nat (by omega) (by omega)]
  refine AW.cut ?_
  conv => whnf
  repeat (first | (refine br.yes ?_; conv => whnf) | (refine br.no ?_; conv => whnf))
  refine ⟨side_in (by decide), ?_⟩
  rw [quart_i (by omega), hq]
  conv => whnf
  repeat (first | (refine br.yes ?_; conv => whnf) | (refine br.no ?_; conv => whnf))
  rw [mul_2i (by omega)]
  rw [show arI .add .i64 ((a : Nat) : Int) (((q * 2) : Nat) : Int) = ((a + (q * 2) : Nat) : Int) from add_nat (by omega) (by omega)]
  refine AW.cut ?_
  conv => whnf
  repeat (first | (refine br.yes ?_; conv => whnf) | (refine br.no ?_; conv => whnf))
  refine ⟨side_in (by decide), ?_⟩
  rw [quart_i (by omega), hq]
  conv => whnf
  repeat (first | (refine br.yes ?_; conv => whnf) | (refine br.no ?_; conv => whnf))
  rw [mul_3i (by omega)]
  rw [show arI .add .i64 ((a : Nat) : Int) (((q * 3) : Nat) : Int) = ((a + (q * 3) : Nat) : Int) from add_nat (by omega) (by omega)]
  generalize h1 : a + q * 1 = k1 at hK ⊢
  generalize h2 : a + q * 2 = k2 at hK ⊢
  generalize h3 : a + q * 3 = k3 at hK ⊢
  refine AW.cut ?_
  conv => whnf
  repeat (first | (refine br.yes ?_; conv => whnf) | (refine br.no ?_; conv => whnf))
  refine br_true (by rw [geq_8]; simp; omega) ?_
  conv => whnf
  repeat (first | (refine br.yes ?_; conv => whnf) | (refine br.no ?_; conv => whnf))
  refine br_false (by rw [geq_50]; simp; omega) ?_
  rw [if_neg hs] at hK
  conv => whnf
  repeat (first | (refine br.yes ?_; conv => whnf) | (refine br.no ?_; conv => whnf))
  refine c_median hi hj hij (by omega) (by omega) (by omega) (by omega) ?_
  generalize Go.Sort.median Go.Sort.ltInt d k1 k2 k3 0 = R at hK ⊢
  conv => whnf
  repeat (first | (refine br.yes ?_; conv => whnf) | (refine br.no ?_; conv => whnf))
  refine AW.cut ?_
  conv => whnf
  repeat (first | (refine br.yes ?_; conv => whnf) | (refine br.no ?_; conv => whnf))
  rw [sw_get hj]
  conv => whnf
  repeat (first | (refine br.yes ?_; conv => whnf) | (refine br.no ?_; conv => whnf))
  refine AW.mk ?_
  conv => whnf
  repeat (first | (refine br.yes ?_; conv => whnf) | (refine br.no ?_; conv => whnf))
  refine br_intro (fun h1 => ?_) (fun h1 => ?_)
  · have h1' : R.2 = 0 := by rw [cmI_eql] at h1; simp at h1; omega
    rw [pivA_0 h1'] at hK
    conv => whnf
    repeat (first | (refine br.yes ?_; conv => whnf) | (refine br.no ?_; conv => whnf))
    exact ⟨sw_back, rfl, hK⟩
  · have h1' : ¬ R.2 = 0 := by rw [cmI_eql] at h1; simp at h1; omega
    conv => whnf
    repeat (first | (refine br.yes ?_; conv => whnf) | (refine br.no ?_; conv => whnf))
    refine br_intro (fun h2 => ?_) (fun h2 => ?_)
    · have h2' : R.2 = 12 := by rw [cmI_eql] at h2; simp at h2; omega
      rw [pivA_12 h2'] at hK
      conv => whnf
      repeat (first | (refine br.yes ?_; conv => whnf) | (refine br.no ?_; conv => whnf))
      exact ⟨sw_back, rfl, hK⟩
    · have h2' : ¬ R.2 = 12 := by rw [cmI_eql] at h2; simp at h2; omega
      rw [pivA_u h1' h2'] at hK
      conv => whnf
      repeat (first | (refine br.yes ?_; conv => whnf) | (refine br.no ?_; conv => whnf))
      exact ⟨sw_back, rfl, hK⟩
set_option maxRecDepth 20000 in
set_option maxHeartbeats 1600000 in
theorem c_choose_big {a b n c r i : Nat} {o : Bool} {d : Array Int} (hi0 : getE m i = some ⟨o, .ai n d.toList, r⟩) (hn : n ≤ 400000) (hb : b ≤ n) (hab : a + 12 < b) (hs : b - a ≥ 50)
    (hK : K (pivA (Go.Sort.rawPivot Go.Sort.ltInt d a b)) m) : CallLeaf Try.prog w0 79 [.sl i [] 1 0 n c, AV.int a, AV.int b] m K := by
  have him : i < m.length := by rw [getE_eq] at hi0; exact getElem?_lt hi0
  have hi : getE (m ++ [⟨true, AV.int (0 : Nat), 0⟩]) i = some ⟨o, .ai n d.toList, r⟩ := getE_left hi0
  have hj : getE (m ++ [⟨true, AV.int (0 : Nat), 0⟩]) m.length = some ⟨true, AV.int (0 : Nat), 0⟩ := getE_last
  have hij : i ≠ m.length := by omega
  refine call_keep ?_
  unfold Go.Sort.rawPivot at hK
  rw [if_pos (show b - a ≥ 8 by omega)] at hK
  refine fn_cut hmix h79 ?_
  conv => whnf
  repeat (first | (refine br.yes ?_; conv => whnf) | (refine br.no ?_; conv => whnf))
  refine AW.cut ?_
  conv => whnf
  repeat (first | (refine br.yes ?_; conv => whnf) | (refine br.no ?_; conv => whnf))
  refine AW.cut ?_
  conv => whnf
  repeat (first | (refine br.yes ?_; conv => whnf) | (refine br.no ?_; conv => whnf))
  rw [sub_nat_i (by omega) (by omega)]
  refine AW.cut ?_
  conv => whnf
  repeat (first | (refine br.yes ?_; conv => whnf) | (refine br.no ?_; conv => whnf))
  rw [newK_eq, show (⟨true, .raw (.int .i64 0), 0⟩ : Ent) = ⟨true, AV.int (0 : Nat), 0⟩ from rfl, sw_self]
  conv => whnf
  repeat (first | (refine br.yes ?_; conv => whnf) | (refine br.no ?_; conv => whnf))
  refine AW.cut ?_
  conv => whnf
  repeat (first | (refine br.yes ?_; conv => whnf) | (refine br.no ?_; conv => whnf))
  refine ⟨side_in (by decide), ?_⟩
  rw [quart_i (by omega)]
  generalize hq : (b - a) / 4 = q at hK ⊢
  have hq4 : 4 * q ≤ b - a ∧ b - a < 4 * q + 4 := by omega
  conv => whnf
  repeat (first | (refine br.yes ?_; conv => whnf) | (refine br.no ?_; conv => whnf))
  rw [mul_1i (by omega)]
  rw [show arI .add .i64 ((a : Nat) : Int) (((q * 1) : Nat) : Int) = ((a + (q * 1) : Nat) : Int) from add_nat (by omega) (by omega)]
  refine AW.cut ?_
  conv => whnf
  repeat (first | (refine br.yes ?_; conv => whnf) | (refine br.no ?_; conv => whnf))
  refine ⟨side_in (by decide), ?_⟩
  rw [quart_i (by omega), hq]
  conv => whnf
  repeat (first | (refine br.yes ?_; conv => whnf) | (refine br.no ?_; conv => whnf))
  rw [mul_2i (by omega)]
  rw [show arI .add .i64 ((a : Nat) : Int) (((q * 2) : Nat) : Int) = ((a + (q * 2) : Nat) : Int) from add_nat (by omega) (by omega)]
  refine AW.cut ?_
  conv => whnf
  repeat (first | (refine br.yes ?_; conv => whnf) | (refine br.no ?_; conv => whnf))
  refine ⟨side_in (by decide), ?_⟩
  rw [quart_i (by omega), hq]
  conv => whnf
  repeat (first | (refine br.yes ?_; conv => whnf) | (refine br.no ?_; conv => whnf))
  rw [mul_3i (by omega)]
  rw [show arI .add .i64 ((a : Nat) : Int) (((q * 3) : Nat) : Int) = ((a + (q * 3) : Nat) : Int) from add_nat (by omega) (by omega)]
  generalize h1 : a + q * 1 = k1 at hK ⊢
  generalize h2 : a + q * 2 = k2 at hK ⊢
  generalize h3 : a + q * 3 = k3 at hK ⊢
  refine AW.cut ?_
  conv => whnf
  repeat (first | (refine br.yes ?_; conv => whnf) | (refine br.no ?_; conv => whnf))
  refine br_true (by rw [geq_8]; simp; omega) ?_
  conv => whnf
  repeat (first | (refine br.yes ?_; conv => whnf) | (refine br.no ?_; conv => whnf))
  refine br_true (by rw [geq_50]; simp; omega) ?_
  rw [if_pos hs] at hK
  conv => whnf
  repeat (first | (refine br.yes ?_; conv => whnf) | (refine br.no ?_; conv => whnf))
  refine c_adjacent hi hj hij hn (by omega) (by omega) (by omega) ?_
  have z1 := adjacent_lt (d := d) (a := k1) (s := 0) (n := n) (by omega)
  generalize Go.Sort.medianAdjacent Go.Sort.ltInt d k1 0 = A1 at hK z1 ⊢
  conv => whnf
  repeat (first | (refine br.yes ?_; conv => whnf) | (refine br.no ?_; conv => whnf))
  refine c_adjacent hi hj hij hn (by omega) (by omega) (by omega) ?_
  have z2 := adjacent_lt (d := d) (a := k2) (s := A1.2) (n := n) (by omega)
  generalize Go.Sort.medianAdjacent Go.Sort.ltInt d k2 A1.2 = A2 at hK z2 ⊢
  conv => whnf
  repeat (first | (refine br.yes ?_; conv => whnf) | (refine br.no ?_; conv => whnf))
  refine c_adjacent hi hj hij hn (by omega) (by omega) (by omega) ?_
  have z3 := adjacent_lt (d := d) (a := k3) (s := A2.2) (n := n) (by omega)
  generalize Go.Sort.medianAdjacent Go.Sort.ltInt d k3 A2.2 = A3 at hK z3 ⊢
  conv => whnf
  repeat (first | (refine br.yes ?_; conv => whnf) | (refine br.no ?_; conv => whnf))
  refine c_median hi hj hij (by omega) (by omega) (by omega) (by omega) ?_
  generalize Go.Sort.median Go.Sort.ltInt d A1.1 A2.1 A3.1 A3.2 = R at hK ⊢
  conv => whnf
  repeat (first | (refine br.yes ?_; conv => whnf) | (refine br.no ?_; conv => whnf))
  refine AW.cut ?_
  conv => whnf
  repeat (first | (refine br.yes ?_; conv => whnf) | (refine br.no ?_; conv => whnf))
  rw [sw_get hj]
  conv => whnf
  repeat (first | (refine br.yes ?_; conv => whnf) | (refine br.no ?_; conv => whnf))
  refine AW.mk ?_
  conv => whnf
  repeat (first | (refine br.yes ?_; conv => whnf) | (refine br.no ?_; conv => whnf))
  refine br_intro (fun h1 => ?_) (fun h1 => ?_)
  · have h1' : R.2 = 0 := by rw [cmI_eql] at h1; simp at h1; omega
    rw [pivA_0 h1'] at hK
    conv => whnf
    repeat (first | (refine br.yes ?_; conv => whnf) | (refine br.no ?_; conv => whnf))
    exact ⟨sw_back, rfl, hK⟩
  · have h1' : ¬ R.2 = 0 := by rw [cmI_eql] at h1; simp at h1; omega
    conv => whnf
    repeat (first | (refine br.yes ?_; conv => whnf) | (refine br.no ?_; conv => whnf))
    refine br_intro (fun h2 => ?_) (fun h2 => ?_)
    · have h2' : R.2 = 12 := by rw [cmI_eql] at h2; simp at h2; omega
      rw [pivA_12 h2'] at hK
      conv => whnf
      repeat (first | (refine br.yes ?_; conv => whnf) | (refine br.no ?_; conv => whnf))
      exact ⟨sw_back, rfl, hK⟩
    · have h2' : ¬ R.2 = 12 := by rw [cmI_eql] at h2; simp at h2; omega
      rw [pivA_u h1' h2'] at hK
      conv => whnf
      repeat (first | (refine br.yes ?_; conv => whnf) | (refine br.no ?_; conv => whnf))
      exact ⟨sw_back, rfl, hK⟩
theorem c_choose {a b n c r i : Nat} {o : Bool} {d : Array Int} (hi : getE m i = some ⟨o, .ai n d.toList, r⟩) (hn : n ≤ 400000) (hb : b ≤ n) (hab : a + 12 < b)
    (hK : K (pivA (Go.Sort.rawPivot Go.Sort.ltInt d a b)) m) : CallLeaf Try.prog w0 79 [.sl i [] 1 0 n c, AV.int a, AV.int b] m K := by
  by_cases hs : b - a ≥ 50
  · exact c_choose_big hi hn hb hab hs hK
  · exact c_choose_small hi hn hb hab hs hK
/-! patterns broken: a word of 64 bits that walks, in a box of its own -/
theorem geq_c {a k : Nat} {c : Int} (hc : c = (k : Int)) : cmI .geq (a : Int) c = decide (k ≤ a) := by rw [hc]; exact geq_nat
theorem wr_u64 {x : Nat} (h : x < 18446744073709551616) : wrI .u64 (x : Int) = (x : Int) := by
  unfold wrI; simp [IntKind.wrap, IntKind.signed, IntKind.bits]; omega
theorem wr_u8 {x : Nat} (h : x < 256) : wrI .u8 (x : Int) = (x : Int) := by
  unfold wrI; simp [IntKind.wrap, IntKind.signed, IntKind.bits]; omega
theorem wr_i64 {x : Nat} (h : x < 9223372036854775808) : wrI .i64 (x : Int) = (x : Int) := by
  unfold wrI; exact wrap_fits (by omega) (by omega)
theorem wrap_u64 (x : Nat) : IntKind.u64.wrap (x : Int) = ((x % 18446744073709551616 : Nat) : Int) := by
  simp [IntKind.wrap, IntKind.signed, IntKind.bits]
theorem u64_shl {x k : Nat} {c : Int} (hc : c = (k : Int)) (hk : k ≤ 64) : shI .shl .u64 (x : Int) c = ((x * 2 ^ k % 18446744073709551616 : Nat) : Int) := by
  unfold shI
  simp only
  rw [hc, Int.toNat_natCast, Nat.min_eq_left (by simp [IntKind.bits]; omega)]
  rw [show ((x : Int) * 2 ^ k) = ((x * 2 ^ k : Nat) : Int) by simp]
  exact wrap_u64 _
theorem u64_shr {x k : Nat} {c : Int} (hc : c = (k : Int)) (hk : k ≤ 64) : shI .shr .u64 (x : Int) c = ((x / 2 ^ k : Nat) : Int) := by
  unfold shI
  simp only
  rw [hc, Int.toNat_natCast, Nat.min_eq_left (by simp [IntKind.bits]; omega)]
  rw [Int.fdiv_eq_ediv_of_nonneg _ (Int.le_of_lt (Int.pow_pos (by decide)))]
  simp
theorem ofInt_nat (x : Nat) : BitVec.ofInt IntKind.u64.bits (x : Int) = BitVec.ofNat 64 x := by
  simp [IntKind.bits]
theorem u64_xor {x y : Nat} (hx : x < 18446744073709551616) (hy : y < 18446744073709551616) : arI .xor .u64 (x : Int) (y : Int) = ((x ^^^ y : Nat) : Int) := by
  unfold arI
  simp only
  rw [ofInt_nat, ofInt_nat]
  have p : (18446744073709551616 : Nat) = 2 ^ 64 := by decide
  have h : x ^^^ y < 18446744073709551616 := by rw [p] at hx hy ⊢; exact Nat.xor_lt_two_pow hx hy
  have e : (BitVec.ofNat 64 x ^^^ BitVec.ofNat 64 y).toNat = x ^^^ y := by
    rw [BitVec.toNat_xor, BitVec.toNat_ofNat, BitVec.toNat_ofNat, Nat.mod_eq_of_lt (by rw [← p]; exact hx), Nat.mod_eq_of_lt (by rw [← p]; exact hy)]
  show IntKind.u64.wrap (((BitVec.ofNat 64 x ^^^ BitVec.ofNat 64 y : BitVec 64).toNat : Nat) : Int) = _
  rw [e, wrap_u64, Nat.mod_eq_of_lt h]
theorem u64_and {x y : Nat} (hx : x < 18446744073709551616) (hy : y < 18446744073709551616) : arI .and .u64 (x : Int) (y : Int) = ((x &&& y : Nat) : Int) := by
  unfold arI
  simp only
  rw [ofInt_nat, ofInt_nat]
  have p : (18446744073709551616 : Nat) = 2 ^ 64 := by decide
  have h : x &&& y < 18446744073709551616 := Nat.lt_of_le_of_lt Nat.and_le_left hx
  have e : (BitVec.ofNat 64 x &&& BitVec.ofNat 64 y).toNat = x &&& y := by
    rw [BitVec.toNat_and, BitVec.toNat_ofNat, BitVec.toNat_ofNat, Nat.mod_eq_of_lt (by rw [← p]; exact hx), Nat.mod_eq_of_lt (by rw [← p]; exact hy)]
  show IntKind.u64.wrap (((BitVec.ofNat 64 x &&& BitVec.ofNat 64 y : BitVec 64).toNat : Nat) : Int) = _
  rw [e, wrap_u64, Nat.mod_eq_of_lt h]
theorem u64_sub1 {x : Nat} (h0 : 1 ≤ x) (hx : x < 18446744073709551616) : arI .sub .u64 (x : Int) 1 = ((x - 1 : Nat) : Int) := by
  unfold arI
  simp only
  rw [show ((x : Int) - 1) = ((x - 1 : Nat) : Int) by omega, wrap_u64, Nat.mod_eq_of_lt (by omega)]
def lenTab : List Nat := (List.range 256).map Go.Sort.bitsLen
theorem tab_at {bs : List Nat} {x : Nat} (h : bs = lenTab) (hx : x < 256) : nthB bs (x : Int) = ((Go.Sort.bitsLen x : Nat) : Int) := by
  subst h
  unfold nthB lenTab
  rw [Int.toNat_natCast]
  simp [List.getD_eq_getElem?_getD, hx]
theorem tab_in {bs : List Nat} {x : Nat} (h : bs = lenTab) (hx : x < 256) : (0 : Int) ≤ (x : Int) ∧ (x : Int) < (bs.length : Int) := by
  subst h
  simp [lenTab]; omega
theorem bits_le {x : Nat} (hx : x < 256) : Go.Sort.bitsLen x ≤ 8 ∧ 1 <<< Go.Sort.bitsLen x ≤ 256 ∧ 1 ≤ 1 <<< Go.Sort.bitsLen x ∧ (8 ≤ x → 1 <<< Go.Sort.bitsLen x ≤ 2 * x) := by
  have h : ∀ x : Fin 256, Go.Sort.bitsLen x ≤ 8 ∧ 1 <<< Go.Sort.bitsLen x ≤ 256 ∧ 1 ≤ 1 <<< Go.Sort.bitsLen x ∧ (8 ≤ (x : Nat) → 1 <<< Go.Sort.bitsLen x ≤ 2 * (x : Nat)) := by decide +kernel
  exact h ⟨x, hx⟩
set_option maxRecDepth 20000 in
theorem c_len64 {x : Nat} (hx : x < 256) (hK : K (AV.int (Go.Sort.bitsLen x : Nat)) m) : CallLeaf Try.prog w0 86 [.raw (.int .u64 x)] m K := by
  refine fn_cut hmix h86 ?_
  conv => whnf
  repeat (first | (refine br.yes ?_; conv => whnf) | (refine br.no ?_; conv => whnf))
  refine AW.cut ?_
  conv => whnf
  repeat (first | (refine br.yes ?_; conv => whnf) | (refine br.no ?_; conv => whnf))
  refine AW.cut ?_
  conv => whnf
  repeat (first | (refine br.yes ?_; conv => whnf) | (refine br.no ?_; conv => whnf))
  refine br_false (by rw [geq_c (k := 4294967296) (c := 4294967296) rfl]; simp; omega) ?_
  conv => whnf
  repeat (first | (refine br.yes ?_; conv => whnf) | (refine br.no ?_; conv => whnf))
  refine AW.cut ?_
  conv => whnf
  repeat (first | (refine br.yes ?_; conv => whnf) | (refine br.no ?_; conv => whnf))
  refine br_false (by rw [geq_c (k := 65536) (c := 65536) rfl]; simp; omega) ?_
  conv => whnf
  repeat (first | (refine br.yes ?_; conv => whnf) | (refine br.no ?_; conv => whnf))
  refine AW.cut ?_
  conv => whnf
  repeat (first | (refine br.yes ?_; conv => whnf) | (refine br.no ?_; conv => whnf))
  refine br_false (by rw [geq_c (k := 256) (c := 256) rfl]; simp; omega) ?_
  conv => whnf
  repeat (first | (refine br.yes ?_; conv => whnf) | (refine br.no ?_; conv => whnf))
  refine AW.cut ?_
  conv => whnf
  repeat (first | (refine br.yes ?_; conv => whnf) | (refine br.no ?_; conv => whnf))
  rw [wr_u8 hx]
  refine ⟨side_in (tab_in (by decide +kernel) hx), ?_⟩
  rw [tab_at (by decide +kernel) hx]
  conv => whnf
  repeat (first | (refine br.yes ?_; conv => whnf) | (refine br.no ?_; conv => whnf))
  have hb := bits_le hx
  rw [wr_i64 (by omega)]
  rw [show arI .add .i64 0 ((Go.Sort.bitsLen x : Nat) : Int) = ((Go.Sort.bitsLen x : Nat) : Int) by rw [arI_add, wrap_fits (by omega) (by omega)]; omega]
  refine AW.mk ?_
  conv => whnf
  repeat (first | (refine br.yes ?_; conv => whnf) | (refine br.no ?_; conv => whnf))
  exact hK
theorem c_len {x : Nat} (hx : x < 256) (hK : K (AV.int (Go.Sort.bitsLen x : Nat)) m) : CallLeaf Try.prog w0 75 [.raw (.int .u64 x)] m K := by
  refine fn_cut hmix h75 ?_
  conv => whnf
  repeat (first | (refine br.yes ?_; conv => whnf) | (refine br.no ?_; conv => whnf))
  refine AW.cut ?_
  conv => whnf
  repeat (first | (refine br.yes ?_; conv => whnf) | (refine br.no ?_; conv => whnf))
  refine AW.cut ?_
  conv => whnf
  repeat (first | (refine br.yes ?_; conv => whnf) | (refine br.no ?_; conv => whnf))
  refine AW.cut ?_
  conv => whnf
  repeat (first | (refine br.yes ?_; conv => whnf) | (refine br.no ?_; conv => whnf))
  refine c_len64 hx ?_
  conv => whnf
  repeat (first | (refine br.yes ?_; conv => whnf) | (refine br.no ?_; conv => whnf))
  refine AW.mk ?_
  conv => whnf
  repeat (first | (refine br.yes ?_; conv => whnf) | (refine br.no ?_; conv => whnf))
  exact hK
theorem c_npow {x : Nat} (hx : x < 256) (hK : K (.raw (.int .u64 (1 <<< Go.Sort.bitsLen x : Nat))) m) : CallLeaf Try.prog w0 88 [AV.int x] m K := by
  have hb := bits_le hx
  refine fn_cut hmix h88 ?_
  conv => whnf
  repeat (first | (refine br.yes ?_; conv => whnf) | (refine br.no ?_; conv => whnf))
  refine AW.cut ?_
  conv => whnf
  repeat (first | (refine br.yes ?_; conv => whnf) | (refine br.no ?_; conv => whnf))
  refine AW.cut ?_
  conv => whnf
  repeat (first | (refine br.yes ?_; conv => whnf) | (refine br.no ?_; conv => whnf))
  rw [wr_u64 (by omega)]
  refine c_len hx ?_
  conv => whnf
  repeat (first | (refine br.yes ?_; conv => whnf) | (refine br.no ?_; conv => whnf))
  refine ⟨side_in (by omega), ?_⟩
  rw [show (1 : Int) = ((1 : Nat) : Int) from rfl, u64_shl rfl (by omega), Nat.mod_eq_of_lt (by rw [Nat.shiftLeft_eq] at hb; omega), ← Nat.shiftLeft_eq]
  conv => whnf
  repeat (first | (refine br.yes ?_; conv => whnf) | (refine br.no ?_; conv => whnf))
  refine AW.mk ?_
  conv => whnf
  repeat (first | (refine br.yes ?_; conv => whnf) | (refine br.no ?_; conv => whnf))
  exact hK
abbrev boxE (v : Nat) : Ent := ⟨true, .raw (.int .u64 v), 0⟩
theorem c_next {j v : Nat} (hj : getE m j = some (boxE v)) (hv : v < 18446744073709551616) (hK : K (.raw (.int .u64 (Go.Sort.xorNextN v))) (setM m j (boxE (Go.Sort.xorNextN v)))) : CallLeaf Try.prog w0 89 [.ptr j []] m K := by
  have p : (18446744073709551616 : Nat) = 2 ^ 64 := by decide
  have ha : v ^^^ (v * 8192 % 18446744073709551616) < 18446744073709551616 := by rw [p]; exact Nat.xor_lt_two_pow (by omega) (by omega)
  unfold Go.Sort.xorNextN at hK
  simp only at hK
  generalize hA : v ^^^ (v * 8192 % 18446744073709551616) = A at ha hK
  have hb : A ^^^ (A / 128) < 18446744073709551616 := by rw [p]; exact Nat.xor_lt_two_pow (by omega) (by omega)
  generalize hB : A ^^^ (A / 128) = B at hb hK
  have hc : B ^^^ (B * 131072 % 18446744073709551616) < 18446744073709551616 := by rw [p]; exact Nat.xor_lt_two_pow (by omega) (by omega)
  generalize hC : B ^^^ (B * 131072 % 18446744073709551616) = C at hc hK
  refine fn_cut hmix h89 ?_
  conv => whnf
  repeat (first | (refine br.yes ?_; conv => whnf) | (refine br.no ?_; conv => whnf))
  refine AW.cut ?_
  conv => whnf
  repeat (first | (refine br.yes ?_; conv => whnf) | (refine br.no ?_; conv => whnf))
  refine AW.cut ?_
  conv => whnf
  repeat (first | (refine br.yes ?_; conv => whnf) | (refine br.no ?_; conv => whnf))
  rw [hj]
  conv => whnf
  repeat (first | (refine br.yes ?_; conv => whnf) | (refine br.no ?_; conv => whnf))
  rw [hj]
  conv => whnf
  repeat (first | (refine br.yes ?_; conv => whnf) | (refine br.no ?_; conv => whnf))
  refine ⟨side_in (by decide), ?_⟩
  rw [u64_shl (k := 13) (c := 13) rfl (by decide)]
  conv => whnf
  repeat (first | (refine br.yes ?_; conv => whnf) | (refine br.no ?_; conv => whnf))
  rw [u64_xor hv (by omega), show v * 2 ^ 13 = v * 8192 from rfl, hA]
  conv => whnf
  repeat (first | (refine br.yes ?_; conv => whnf) | (refine br.no ?_; conv => whnf))
  rw [hj]
  conv => whnf
  repeat (first | (refine br.yes ?_; conv => whnf) | (refine br.no ?_; conv => whnf))
  rw [setEK_M]
  conv => whnf
  repeat (first | (refine br.yes ?_; conv => whnf) | (refine br.no ?_; conv => whnf))
  have hj1 : getE (setM m j (boxE A)) j = some (boxE A) := getE_set hj
  refine AW.cut ?_
  conv => whnf
  repeat (first | (refine br.yes ?_; conv => whnf) | (refine br.no ?_; conv => whnf))
  rw [hj1]
  conv => whnf
  repeat (first | (refine br.yes ?_; conv => whnf) | (refine br.no ?_; conv => whnf))
  rw [hj1]
  conv => whnf
  repeat (first | (refine br.yes ?_; conv => whnf) | (refine br.no ?_; conv => whnf))
  refine ⟨side_in (by decide), ?_⟩
  rw [u64_shr (k := 7) (c := 7) rfl (by decide)]
  conv => whnf
  repeat (first | (refine br.yes ?_; conv => whnf) | (refine br.no ?_; conv => whnf))
  rw [u64_xor ha (by omega), show A / 2 ^ 7 = A / 128 from rfl, hB]
  conv => whnf
  repeat (first | (refine br.yes ?_; conv => whnf) | (refine br.no ?_; conv => whnf))
  rw [hj1]
  conv => whnf
  repeat (first | (refine br.yes ?_; conv => whnf) | (refine br.no ?_; conv => whnf))
  rw [setEK_M, set_set_ms]
  conv => whnf
  repeat (first | (refine br.yes ?_; conv => whnf) | (refine br.no ?_; conv => whnf))
  have hj2 : getE (setM m j (boxE B)) j = some (boxE B) := getE_set hj
  refine AW.cut ?_
  conv => whnf
  repeat (first | (refine br.yes ?_; conv => whnf) | (refine br.no ?_; conv => whnf))
  rw [hj2]
  conv => whnf
  repeat (first | (refine br.yes ?_; conv => whnf) | (refine br.no ?_; conv => whnf))
  rw [hj2]
  conv => whnf
  repeat (first | (refine br.yes ?_; conv => whnf) | (refine br.no ?_; conv => whnf))
  refine ⟨side_in (by decide), ?_⟩
  rw [u64_shl (k := 17) (c := 17) rfl (by decide)]
  conv => whnf
  repeat (first | (refine br.yes ?_; conv => whnf) | (refine br.no ?_; conv => whnf))
  rw [u64_xor hb (by omega), show B * 2 ^ 17 = B * 131072 from rfl, hC]
  conv => whnf
  repeat (first | (refine br.yes ?_; conv => whnf) | (refine br.no ?_; conv => whnf))
  rw [hj2]
  conv => whnf
  repeat (first | (refine br.yes ?_; conv => whnf) | (refine br.no ?_; conv => whnf))
  rw [setEK_M, set_set_ms]
  conv => whnf
  repeat (first | (refine br.yes ?_; conv => whnf) | (refine br.no ?_; conv => whnf))
  have hj3 : getE (setM m j (boxE C)) j = some (boxE C) := getE_set hj
  refine AW.cut ?_
  conv => whnf
  repeat (first | (refine br.yes ?_; conv => whnf) | (refine br.no ?_; conv => whnf))
  rw [hj3]
  conv => whnf
  repeat (first | (refine br.yes ?_; conv => whnf) | (refine br.no ?_; conv => whnf))
  refine AW.mk ?_
  conv => whnf
  repeat (first | (refine br.yes ?_; conv => whnf) | (refine br.no ?_; conv => whnf))
  exact hK
/-! patterns broken: the three rounds -/
theorem aw_assoc {P : Program} {nb : Nat} {a b c : DCode} {ts : TS} {K : DExit → TS → MS → Prop} (h : AW P w0 nb (.seq a (.seq b c)) ts m K) : AW P w0 nb (.seq (.seq a b) c) ts m K := by
  refine ⟨?_⟩
  have h : awp P w0 nb a ts m _ := h.out
  show awp P w0 nb a ts m _
  refine cast (congrArg (awp P w0 nb a ts m) ?_) h
  funext e ts m
  cases e <;> rfl
theorem aw_block {P : Program} {nb id : Nat} {b : DCode} {ts : TS} {K : DExit → TS → MS → Prop} (h : AW P w0 nb b ts m fun e ts m => match e with
      | .normal => K .normal ts m
      | .ret => K .ret ts m
      | .exit i => if i = id then K .normal ts m else K (.exit i) ts m) : AW P w0 nb (.block id b) ts m K := ⟨h.out⟩
theorem aw_blk {P : Program} {nb id : Nat} {b c : DCode} {ts : TS} {K : DExit → TS → MS → Prop} (h : AW P w0 nb b ts m fun e ts m => match e with
      | .normal => AW P w0 nb c ts m K
      | .ret => K .ret ts m
      | .exit i => if i = id then AW P w0 nb c ts m K else K (.exit i) ts m) : AW P w0 nb (.seq (.block id b) c) ts m K := by
  refine AW.cut ?_
  exact (aw_block (id := id) h).out
theorem aw_loop {P : Program} {nb : Nat} {b : DCode} {ts : TS} {K : DExit → TS → MS → Prop} (h : LoopLeaf nb (fun ts m K => AW P w0 nb b ts m K) ts m K) : AW P w0 nb (.loop b) ts m K := ⟨loop_cut h⟩
theorem rowM_len {i n r : Nat} {d : Array Int} : (rowM m i n r d).length = m.length := by unfold rowM setM; simp
theorem rowM_add {i n r : Nat} {d : Array Int} {e : Ent} (h : i < m.length) : rowM m i n r d ++ [e] = rowM (m ++ [e]) i n r d := by
  unfold rowM setM
  rw [List.set_append_left _ _ h]
theorem rowM_take {i n r : Nat} {d : Array Int} {e : Ent} (h : i < m.length) : (rowM (m ++ [e]) i n r d).take m.length = rowM m i n r d := by
  rw [← rowM_add h, ← rowM_len (m := m) (i := i) (n := n) (r := r) (d := d), List.take_left]
theorem rowM_box {i n r : Nat} {d : Array Int} {e e' : Ent} (h : i < m.length) : setM (rowM (m ++ [e]) i n r d) m.length e' = rowM (m ++ [e']) i n r d := by
  rw [← rowM_add h, ← rowM_add h]
  unfold setM
  rw [List.set_append_right _ _ (by rw [rowM_len]; exact Nat.le_refl _), rowM_len]
  simp
theorem rowM_last {i n r : Nat} {d : Array Int} {e : Ent} (h : i < m.length) : getE (rowM (m ++ [e]) i n r d) m.length = some e := by
  rw [← rowM_add h, ← rowM_len (m := m) (i := i) (n := n) (r := r) (d := d)]
  exact getE_last
theorem belowM_set {k : Nat} {e : Ent} (he : below k e.c = true) : ∀ {m : MS} (i : Nat), belowM k m = true → belowM k (m.set i e) = true
  | [], i, h => by simpa using h
  | x :: m, 0, h => by
    simp only [belowM] at h
    simp only [List.set_cons_zero, belowM, he]
    split at h
    · exact h
    · cases h
  | x :: m, i + 1, h => by
    simp only [belowM] at h
    simp only [List.set_cons_succ, belowM]
    split at h
    · exact belowM_set he i h
    · cases h
theorem rowM_below {k i n r : Nat} {d : Array Int} (h : belowM k m = true) : belowM k (rowM m i n r d) = true := by
  unfold rowM setM
  exact belowM_set rfl i h
def brS (a L md x0 : Nat) (d : Array Int) : Nat → UInt64 × Array Int
  | 0 => (UInt64.ofNat L, d)
  | q + 1 => Go.Sort.breakStep a L md (brS a L md x0 d q) (x0 + q)
theorem brS_all {a b : Nat} {d : Array Int} (h : b - a ≥ 8) : (brS a (b - a) (1 <<< Go.Sort.bitsLen (b - a)) (a + (b - a) / 4 * 2 - 1) d 3).2 = Go.Sort.breakPatterns d a b := by
  unfold Go.Sort.breakPatterns
  simp only
  rw [if_pos h]
  rfl
def brO (L md : Nat) (s : UInt64) : Nat := if Go.Sort.xorNextN s.toNat &&& (md - 1) ≥ L then (Go.Sort.xorNextN s.toNat &&& (md - 1)) - L else Go.Sort.xorNextN s.toNat &&& (md - 1)
theorem brS_next {a L md x0 q : Nat} {d : Array Int} : (brS a L md x0 d (q + 1)).1.toNat = Go.Sort.xorNextN (brS a L md x0 d q).1.toNat ∧ (brS a L md x0 d (q + 1)).2 = Go.Sort.swp (brS a L md x0 d q).2 (x0 + q) (a + brO L md (brS a L md x0 d q).1) := by
  unfold brO
  rw [← Go.Sort.xorNext_toNat]
  exact ⟨rfl, rfl⟩
set_option maxRecDepth 20000 in
set_option maxHeartbeats 1600000 in
theorem c_break {a b n c r i : Nat} {e : Ent} {d : Array Int} (hi0 : getE m i = some e) (hm : belowM m.length m = true) (hn : n < 256) (hb : b ≤ n) (hab : a + 12 < b)
    (hK : K (.tup []) (rowM m i n r (Go.Sort.breakPatterns d a b))) : CallLeaf Try.prog w0 78 [.sl i [] 1 0 n c, AV.int a, AV.int b] (rowM m i n r d) K := by
  have him : i < m.length := by rw [getE_eq] at hi0; exact getElem?_lt hi0
  have hi : ∀ v, getE (m ++ [boxE v]) i = some e := fun v => getE_left hi0
  have hbits := bits_le (x := b - a) (by omega)
  have hbit2 := hbits.2.2.2 (by omega)
  rw [← brS_all (by omega)] at hK
  refine call_drop ?_
  generalize hmd : 1 <<< Go.Sort.bitsLen (b - a) = md at hbits hbit2 hK
  generalize hq4 : (b - a) / 4 = q4 at hK
  have hq4' : 4 * q4 ≤ b - a ∧ b - a < 4 * q4 + 4 := by omega
  generalize hx0 : a + q4 * 2 - 1 = x0 at hK
  refine fn_cut hmix h78 ?_
  conv => whnf
  repeat (first | (refine br.yes ?_; conv => whnf) | (refine br.no ?_; conv => whnf))
  refine AW.cut ?_
  conv => whnf
  repeat (first | (refine br.yes ?_; conv => whnf) | (refine br.no ?_; conv => whnf))
  rw [sub_nat_i (by omega) (by omega)]
  refine AW.cut ?_
  conv => whnf
  repeat (first | (refine br.yes ?_; conv => whnf) | (refine br.no ?_; conv => whnf))
  refine AW.cond ?_
  conv => whnf
  repeat (first | (refine br.yes ?_; conv => whnf) | (refine br.no ?_; conv => whnf))
  refine br_true (by rw [geq_8]; simp; omega) ?_
  refine AW.cut ?_
  conv => whnf
  repeat (first | (refine br.yes ?_; conv => whnf) | (refine br.no ?_; conv => whnf))
  rw [newK_eq, rowM_len, rowM_add him]
  conv => whnf
  repeat (first | (refine br.yes ?_; conv => whnf) | (refine br.no ?_; conv => whnf))
  rw [rowM_last him]
  conv => whnf
  repeat (first | (refine br.yes ?_; conv => whnf) | (refine br.no ?_; conv => whnf))
  rw [setEK_M, rowM_box him, wr_u64 (by omega)]
  conv => whnf
  repeat (first | (refine br.yes ?_; conv => whnf) | (refine br.no ?_; conv => whnf))
  refine AW.cut ?_
  conv => whnf
  repeat (first | (refine br.yes ?_; conv => whnf) | (refine br.no ?_; conv => whnf))
  refine c_npow (by omega) ?_
  rw [hmd]
  conv => whnf
  repeat (first | (refine br.yes ?_; conv => whnf) | (refine br.no ?_; conv => whnf))
  refine AW.cut ?_
  conv => whnf
  repeat (first | (refine br.yes ?_; conv => whnf) | (refine br.no ?_; conv => whnf))
  refine ⟨side_in (by decide), ?_⟩
  rw [quart_i (by omega), hq4]
  conv => whnf
  repeat (first | (refine br.yes ?_; conv => whnf) | (refine br.no ?_; conv => whnf))
  rw [mul_2i (by omega)]
  rw [show arI .add .i64 ((a : Nat) : Int) (((q4 * 2) : Nat) : Int) = ((a + (q4 * 2) : Nat) : Int) from add_nat (by omega) (by omega)]
  rw [sub_one (by omega) (by omega), hx0]
  conv => whnf
  repeat (first | (refine br.yes ?_; conv => whnf) | (refine br.no ?_; conv => whnf))
  refine aw_block ?_
  refine aw_loop ?_
  refine loop_opq 3 (fun q ts M => M = rowM (m ++ [boxE (brS a (b - a) md x0 d q).1.toNat]) i n r (brS a (b - a) md x0 d q).2 ∧ ts = [.sl i [] 1 0 n c, AV.int a, AV.int b, .junk, .junk, .junk, AV.int (b - a : Nat), .ptr m.length [], .raw (.int .u64 md), AV.int (x0 + q : Nat), .junk, .junk, .junk, .junk, .junk, .junk, .junk, .junk, .junk, .junk, .junk, .junk, .junk, .junk, .junk, .junk, .junk, .junk, .junk, .junk, .junk, .junk, .junk, .junk, .junk, .junk, .junk, .junk, .junk, .junk, .junk, .junk, .junk, .junk, .junk, .junk, .junk, .junk, .junk, .junk, .junk, .junk, .junk, .junk, .junk, .junk, .junk, .junk, .junk, .junk, .junk, .junk, .junk, .junk, .junk]) _ _ ?hw trim_no ⟨?h0, rfl⟩ ?_
  case hw =>
    repeat (first | exact weak_nil | refine weak_same ?_ | refine weak_junk ?_)
  case h0 =>
    have h64 : (UInt64.ofNat (b - a)).toNat = b - a := by rw [UInt64.toNat_ofNat']; omega
    show _ = rowM (m ++ [boxE (UInt64.ofNat (b - a)).toNat]) i n r d
    rw [h64]
  rintro q hq ts m' ⟨rfl, rfl⟩ R hR KK k1 k2 k3
  obtain ⟨e1, e2⟩ := brS_next (a := a) (L := b - a) (md := md) (x0 := x0) (q := q) (d := d)
  have hv := (brS a (b - a) md x0 d q).1.toNat_lt
  show AW _ _ _ _ _ _ _
  refine aw_assoc ?_
  refine AW.cut ?_
  conv => whnf
  repeat (first | (refine br.yes ?_; conv => whnf) | (refine br.no ?_; conv => whnf))
  refine ⟨side_in (by decide), ?_⟩
  rw [quart_i (by omega), hq4]
  conv => whnf
  repeat (first | (refine br.yes ?_; conv => whnf) | (refine br.no ?_; conv => whnf))
  rw [mul_2i (by omega)]
  rw [show arI .add .i64 ((a : Nat) : Int) (((q4 * 2) : Nat) : Int) = ((a + (q4 * 2) : Nat) : Int) from add_nat (by omega) (by omega)]
  rw [add_one (by omega)]
  rw [leq_nat]
  refine AW.cut ?_
  conv => whnf
  repeat (first | (refine br.yes ?_; conv => whnf) | (refine br.no ?_; conv => whnf))
  refine br_intro (fun h1 => ?_) (fun h1 => ?_)
  · have h1' : q < 3 := by simp at h1; omega
    conv => whnf
    repeat (first | (refine br.yes ?_; conv => whnf) | (refine br.no ?_; conv => whnf))
    refine aw_blk ?_
    refine AW.cut ?_
    conv => whnf
    repeat (first | (refine br.yes ?_; conv => whnf) | (refine br.no ?_; conv => whnf))
    refine c_next (rowM_last him) hv ?_
    rw [rowM_box him]
    have hand := Nat.and_le_right (n := Go.Sort.xorNextN (brS a (b - a) md x0 d q).1.toNat) (m := md - 1)
    conv => whnf
    repeat (first | (refine br.yes ?_; conv => whnf) | (refine br.no ?_; conv => whnf))
    rw [u64_sub1 (by omega) (by omega)]
    conv => whnf
    repeat (first | (refine br.yes ?_; conv => whnf) | (refine br.no ?_; conv => whnf))
    rw [u64_and (Go.Sort.xorNextN_lt _ hv) (by omega)]
    generalize hO : Go.Sort.xorNextN (brS a (b - a) md x0 d q).1.toNat &&& (md - 1) = O0 at hand ⊢
    rw [wr_i64 (by omega)]
    conv => whnf
    repeat (first | (refine br.yes ?_; conv => whnf) | (refine br.no ?_; conv => whnf))
    refine aw_assoc ?_
    refine AW.cut ?_
    conv => whnf
    repeat (first | (refine br.yes ?_; conv => whnf) | (refine br.no ?_; conv => whnf))
    rw [geq_nat]
    refine AW.cut ?_
    conv => whnf
    repeat (first | (refine br.yes ?_; conv => whnf) | (refine br.no ?_; conv => whnf))
    refine br_intro (fun h2 => ?_) (fun h2 => ?_)
    · have h2' : O0 ≥ b - a := by simpa using h2
      conv => whnf
      repeat (first | (refine br.yes ?_; conv => whnf) | (refine br.no ?_; conv => whnf))
      rw [sub_nat_i (by omega) (by omega)]
      have hi := hi (Go.Sort.xorNextN (brS a (b - a) md x0 d q).1.toNat)
      have hbo : brO (b - a) md (brS a (b - a) md x0 d q).1 = (O0 - (b - a)) := by unfold brO; rw [hO, if_pos h2']
      have ho : (O0 - (b - a)) < b - a := by omega
      rw [hbo] at e2
      generalize (O0 - (b - a)) = O at ho e2 ⊢
      conv => whnf
      repeat (first | (refine br.yes ?_; conv => whnf) | (refine br.no ?_; conv => whnf))
      refine AW.mk ?_
      conv => whnf
      repeat (first | (refine br.yes ?_; conv => whnf) | (refine br.no ?_; conv => whnf))
      rw [show arI .add .i64 ((a : Nat) : Int) ((O : Nat) : Int) = ((a + O : Nat) : Int) from add_nat (by omega) (by omega)]
      refine ⟨side_in ⟨by omega, by omega⟩, ?_⟩
      conv => whnf
      repeat (first | (refine br.yes ?_; conv => whnf) | (refine br.no ?_; conv => whnf))
      rw [row_get hi]
      conv => whnf
      repeat (first | (refine br.yes ?_; conv => whnf) | (refine br.no ?_; conv => whnf))
      refine ⟨side_in (at_lt (by omega)), ?_⟩
      rw [row_nth]
      conv => whnf
      repeat (first | (refine br.yes ?_; conv => whnf) | (refine br.no ?_; conv => whnf))
      refine ⟨side_in ⟨by omega, by omega⟩, ?_⟩
      conv => whnf
      repeat (first | (refine br.yes ?_; conv => whnf) | (refine br.no ?_; conv => whnf))
      rw [row_get hi]
      conv => whnf
      repeat (first | (refine br.yes ?_; conv => whnf) | (refine br.no ?_; conv => whnf))
      refine ⟨side_in (at_lt (by omega)), ?_⟩
      rw [row_nth]
      conv => whnf
      repeat (first | (refine br.yes ?_; conv => whnf) | (refine br.no ?_; conv => whnf))
      refine ⟨side_in ⟨by omega, by omega⟩, ?_⟩
      conv => whnf
      repeat (first | (refine br.yes ?_; conv => whnf) | (refine br.no ?_; conv => whnf))
      rw [row_get hi]
      conv => whnf
      repeat (first | (refine br.yes ?_; conv => whnf) | (refine br.no ?_; conv => whnf))
      refine ⟨side_in (at_lt (by omega)), ?_⟩
      conv => whnf
      repeat (first | (refine br.yes ?_; conv => whnf) | (refine br.no ?_; conv => whnf))
      rw [row_put]
      conv => whnf
      repeat (first | (refine br.yes ?_; conv => whnf) | (refine br.no ?_; conv => whnf))
      refine ⟨side_in ⟨by omega, by omega⟩, ?_⟩
      conv => whnf
      repeat (first | (refine br.yes ?_; conv => whnf) | (refine br.no ?_; conv => whnf))
      rw [row_get hi]
      conv => whnf
      repeat (first | (refine br.yes ?_; conv => whnf) | (refine br.no ?_; conv => whnf))
      refine ⟨side_in (at_lt (by omega)), ?_⟩
      conv => whnf
      repeat (first | (refine br.yes ?_; conv => whnf) | (refine br.no ?_; conv => whnf))
      rw [row_put]
      conv => whnf
      repeat (first | (refine br.yes ?_; conv => whnf) | (refine br.no ?_; conv => whnf))
      rw [swp_eq, ← e2]
      conv => whnf
      repeat (first | (refine br.yes ?_; conv => whnf) | (refine br.no ?_; conv => whnf))
      refine AW.mk ?_
      conv => whnf
      repeat (first | (refine br.yes ?_; conv => whnf) | (refine br.no ?_; conv => whnf))
      rw [add_one (by omega)]
      refine k1 _ _ (hR (by omega) _ _ _ _ ?hw1 trim_no ⟨?me1, rfl⟩)
      case hw1 =>
        repeat (first | exact weak_nil | refine weak_same ?_ | refine weak_junk ?_)
      case me1 =>
        rw [e1]
    · have h2' : ¬ O0 ≥ b - a := by simpa using h2
      have hi := hi (Go.Sort.xorNextN (brS a (b - a) md x0 d q).1.toNat)
      have hbo : brO (b - a) md (brS a (b - a) md x0 d q).1 = O0 := by unfold brO; rw [hO, if_neg h2']
      have ho : O0 < b - a := by omega
      rw [hbo] at e2
      generalize O0 = O at ho e2 ⊢
      conv => whnf
      repeat (first | (refine br.yes ?_; conv => whnf) | (refine br.no ?_; conv => whnf))
      refine AW.mk ?_
      conv => whnf
      repeat (first | (refine br.yes ?_; conv => whnf) | (refine br.no ?_; conv => whnf))
      rw [show arI .add .i64 ((a : Nat) : Int) ((O : Nat) : Int) = ((a + O : Nat) : Int) from add_nat (by omega) (by omega)]
      refine ⟨side_in ⟨by omega, by omega⟩, ?_⟩
      conv => whnf
      repeat (first | (refine br.yes ?_; conv => whnf) | (refine br.no ?_; conv => whnf))
      rw [row_get hi]
      conv => whnf
      repeat (first | (refine br.yes ?_; conv => whnf) | (refine br.no ?_; conv => whnf))
      refine ⟨side_in (at_lt (by omega)), ?_⟩
      rw [row_nth]
      conv => whnf
      repeat (first | (refine br.yes ?_; conv => whnf) | (refine br.no ?_; conv => whnf))
      refine ⟨side_in ⟨by omega, by omega⟩, ?_⟩
      conv => whnf
      repeat (first | (refine br.yes ?_; conv => whnf) | (refine br.no ?_; conv => whnf))
      rw [row_get hi]
      conv => whnf
      repeat (first | (refine br.yes ?_; conv => whnf) | (refine br.no ?_; conv => whnf))
      refine ⟨side_in (at_lt (by omega)), ?_⟩
      rw [row_nth]
      conv => whnf
      repeat (first | (refine br.yes ?_; conv => whnf) | (refine br.no ?_; conv => whnf))
      refine ⟨side_in ⟨by omega, by omega⟩, ?_⟩
      conv => whnf
      repeat (first | (refine br.yes ?_; conv => whnf) | (refine br.no ?_; conv => whnf))
      rw [row_get hi]
      conv => whnf
      repeat (first | (refine br.yes ?_; conv => whnf) | (refine br.no ?_; conv => whnf))
      refine ⟨side_in (at_lt (by omega)), ?_⟩
      conv => whnf
      repeat (first | (refine br.yes ?_; conv => whnf) | (refine br.no ?_; conv => whnf))
      rw [row_put]
      conv => whnf
      repeat (first | (refine br.yes ?_; conv => whnf) | (refine br.no ?_; conv => whnf))
      refine ⟨side_in ⟨by omega, by omega⟩, ?_⟩
      conv => whnf
      repeat (first | (refine br.yes ?_; conv => whnf) | (refine br.no ?_; conv => whnf))
      rw [row_get hi]
      conv => whnf
      repeat (first | (refine br.yes ?_; conv => whnf) | (refine br.no ?_; conv => whnf))
      refine ⟨side_in (at_lt (by omega)), ?_⟩
      conv => whnf
      repeat (first | (refine br.yes ?_; conv => whnf) | (refine br.no ?_; conv => whnf))
      rw [row_put]
      conv => whnf
      repeat (first | (refine br.yes ?_; conv => whnf) | (refine br.no ?_; conv => whnf))
      rw [swp_eq, ← e2]
      conv => whnf
      repeat (first | (refine br.yes ?_; conv => whnf) | (refine br.no ?_; conv => whnf))
      refine AW.mk ?_
      conv => whnf
      repeat (first | (refine br.yes ?_; conv => whnf) | (refine br.no ?_; conv => whnf))
      rw [add_one (by omega)]
      refine k1 _ _ (hR (by omega) _ _ _ _ ?hw2 trim_no ⟨?me2, rfl⟩)
      case hw2 =>
        repeat (first | exact weak_nil | refine weak_same ?_ | refine weak_junk ?_)
      case me2 =>
        rw [e1]
  · have h1' : q = 3 := by simp at h1; omega
    subst h1'
    conv => whnf
    repeat (first | (refine br.yes ?_; conv => whnf) | (refine br.no ?_; conv => whnf))
    refine k3 0 _ _ ?_
    conv => whnf
    repeat (first | (refine br.yes ?_; conv => whnf) | (refine br.no ?_; conv => whnf))
    refine ⟨?_, ?_, rfl, ?_⟩
    · rw [rowM_take him, rowM_len]
    · rw [rowM_take him]
      exact rowM_below hm
    · rw [rowM_take him]
      exact hK
/-! the cut of equal elements -/
theorem scanDown_s {p : Int → Bool} {d : Array Int} {i j : Nat} : Go.Sort.scanDown p d i (j + 1) = if i ≤ j + 1 && p d[j + 1]! then Go.Sort.scanDown p d i j else j + 1 := rfl
theorem scanDown_go {p : Int → Bool} {d : Array Int} {i j : Nat} (hi : 1 ≤ i) (h1 : i ≤ j) (h2 : p d[j]! = true) : Go.Sort.scanDown p d i j = Go.Sort.scanDown p d i (j - 1) := by
  obtain ⟨j, rfl⟩ : ∃ j', j = j' + 1 := ⟨j - 1, by omega⟩
  rw [scanDown_s, if_pos (by simp [h1, h2])]
  rfl
theorem scanDown_stop {p : Int → Bool} {d : Array Int} {i j : Nat} (h : ¬ i ≤ j ∨ p d[j]! = false) : Go.Sort.scanDown p d i j = j := by
  cases j with
  | zero => rfl
  | succ j =>
    rw [scanDown_s, if_neg]
    rcases h with h | h
    · simp [h]
    · simp [h]
theorem scanUp_go {p : Int → Bool} {d : Array Int} {i j : Nat} (h1 : i ≤ j) (h2 : p d[i]! = true) : Go.Sort.scanUp p d j i = Go.Sort.scanUp p d j (i + 1) := by
  rw [Go.Sort.scanUp, if_pos (by simp [h1, h2])]
theorem scanUp_stop {p : Int → Bool} {d : Array Int} {i j : Nat} (h : ¬ i ≤ j ∨ p d[i]! = false) : Go.Sort.scanUp p d j i = i := by
  rw [Go.Sort.scanUp, if_neg]
  rcases h with h | h
  · simp [h]
  · simp [h]
set_option maxRecDepth 20000 in
set_option maxHeartbeats 3200000 in
theorem c_pareq {a b pv n c r i : Nat} {e : Ent} {d : Array Int} (hi : getE m i = some e) (hn : n ≤ 400000) (hb : b ≤ n) (hab : a < b) (hpv : pv < n)
    (hK : K (AV.int (Go.Sort.partitionEqual Go.Sort.ltInt d a b pv).1) (rowM m i n r (Go.Sort.partitionEqual Go.Sort.ltInt d a b pv).2)) : CallLeaf Try.prog w0 83 [.sl i [] 1 0 n c, AV.int a, AV.int b, AV.int pv] (rowM m i n r d) K := by
  unfold Go.Sort.partitionEqual at hK
  obtain ⟨T, hT⟩ : ∃ T, T = Go.Sort.partEqLoop Go.Sort.ltInt a (a + 1) (b - 1) (Go.Sort.swp d a pv) := ⟨_, rfl⟩
  rw [← hT] at hK
  refine fn_cut hmix h83 ?_
  conv => whnf
  repeat (first | (refine br.yes ?_; conv => whnf) | (refine br.no ?_; conv => whnf))
  refine AW.cut ?_
  conv => whnf
  repeat (first | (refine br.yes ?_; conv => whnf) | (refine br.no ?_; conv => whnf))
  refine AW.cut ?_
  conv => whnf
  repeat (first | (refine br.yes ?_; conv => whnf) | (refine br.no ?_; conv => whnf))
  refine ⟨side_in ⟨by omega, by omega⟩, ?_⟩
  conv => whnf
  repeat (first | (refine br.yes ?_; conv => whnf) | (refine br.no ?_; conv => whnf))
  rw [row_get hi]
  conv => whnf
  repeat (first | (refine br.yes ?_; conv => whnf) | (refine br.no ?_; conv => whnf))
  refine ⟨side_in (at_lt (by omega)), ?_⟩
  rw [row_nth]
  conv => whnf
  repeat (first | (refine br.yes ?_; conv => whnf) | (refine br.no ?_; conv => whnf))
  refine ⟨side_in ⟨by omega, by omega⟩, ?_⟩
  conv => whnf
  repeat (first | (refine br.yes ?_; conv => whnf) | (refine br.no ?_; conv => whnf))
  rw [row_get hi]
  conv => whnf
  repeat (first | (refine br.yes ?_; conv => whnf) | (refine br.no ?_; conv => whnf))
  refine ⟨side_in (at_lt (by omega)), ?_⟩
  rw [row_nth]
  conv => whnf
  repeat (first | (refine br.yes ?_; conv => whnf) | (refine br.no ?_; conv => whnf))
  refine ⟨side_in ⟨by omega, by omega⟩, ?_⟩
  conv => whnf
  repeat (first | (refine br.yes ?_; conv => whnf) | (refine br.no ?_; conv => whnf))
  rw [row_get hi]
  conv => whnf
  repeat (first | (refine br.yes ?_; conv => whnf) | (refine br.no ?_; conv => whnf))
  refine ⟨side_in (at_lt (by omega)), ?_⟩
  conv => whnf
  repeat (first | (refine br.yes ?_; conv => whnf) | (refine br.no ?_; conv => whnf))
  rw [row_put]
  conv => whnf
  repeat (first | (refine br.yes ?_; conv => whnf) | (refine br.no ?_; conv => whnf))
  refine ⟨side_in ⟨by omega, by omega⟩, ?_⟩
  conv => whnf
  repeat (first | (refine br.yes ?_; conv => whnf) | (refine br.no ?_; conv => whnf))
  rw [row_get hi]
  conv => whnf
  repeat (first | (refine br.yes ?_; conv => whnf) | (refine br.no ?_; conv => whnf))
  refine ⟨side_in (at_lt (by omega)), ?_⟩
  conv => whnf
  repeat (first | (refine br.yes ?_; conv => whnf) | (refine br.no ?_; conv => whnf))
  rw [row_put]
  conv => whnf
  repeat (first | (refine br.yes ?_; conv => whnf) | (refine br.no ?_; conv => whnf))
  rw [swp_eq]
  conv => whnf
  repeat (first | (refine br.yes ?_; conv => whnf) | (refine br.no ?_; conv => whnf))
  refine AW.cut ?_
  conv => whnf
  repeat (first | (refine br.yes ?_; conv => whnf) | (refine br.no ?_; conv => whnf))
  rw [add_one (by omega), sub_one (by omega) (by omega)]
  refine aw_blk ?_
  refine aw_loop ?_
  refine loop_opq n (fun k ts M => ∃ d1 i1 j1, M = rowM m i n r d1 ∧ (a < i1 ∧ i1 ≤ j1 + 1 ∧ j1 < b ∧ k + (j1 + 1 - i1) ≤ n) ∧ Go.Sort.partEqLoop Go.Sort.ltInt a i1 j1 d1 = T ∧ ts = [.sl i [] 1 0 n c, AV.int a, AV.int b, AV.int pv, .junk, .junk, .junk, .junk, .junk, AV.int i1, AV.int j1, .junk, .junk, .junk, .junk, .junk, .junk, .junk, .junk, .junk, .junk, .junk, .junk, .junk, .junk, .junk, .junk, .junk, .junk, .junk, .junk, .junk, .junk, .junk, .junk, .junk, .junk, .junk, .junk, .junk, .junk, .junk, .junk, .junk, .junk, .junk, .junk, .junk, .junk, .junk, .junk, .junk, .junk, .junk, .junk, .junk, .junk, .junk, .junk, .junk, .junk, .junk, .junk, .junk, .junk, .junk, .junk, .junk, .junk, .junk, .junk, .junk, .junk, .junk, .junk, .junk, .junk, .junk, .junk, .junk, .junk, .junk, .junk, .junk]) _ _ ?hw trim_no ⟨_, a + 1, b - 1, rfl, by omega, hT.symm, rfl⟩ ?_
  case hw =>
    repeat (first | exact weak_nil | refine weak_same ?_ | refine weak_junk ?_)
  rintro k hk ts m' ⟨d1, i1, j1, rfl, hij, hd, rfl⟩ R hR KK k1 k2 k3
  rw [Go.Sort.partEqLoop_eq] at hd
  have f1 := Go.Sort.scanUp_spec (fun x => !Go.Sort.ltInt d1[a]! x) d1 j1 _ i1 rfl
  have f2 := Go.Sort.scanDown_spec (fun x => Go.Sort.ltInt d1[a]! x) d1 (Go.Sort.scanUp (fun x => !Go.Sort.ltInt d1[a]! x) d1 j1 i1) j1
  obtain ⟨f11, f12, -, f14⟩ := f1
  obtain ⟨f21, f22, -, f24⟩ := f2
  have f12 := f12 (by omega)
  generalize hI : Go.Sort.scanUp (fun x => !Go.Sort.ltInt d1[a]! x) d1 j1 i1 = I2 at hd f11 f12 f14 f21 f22 f24
  have f22 := f22 f12
  generalize hJ : Go.Sort.scanDown (fun x => Go.Sort.ltInt d1[a]! x) d1 I2 j1 = J2 at hd f21 f22 f24
  have fne : I2 ≤ J2 → I2 ≠ J2 := by
    intro h1 h2
    subst h2
    have h3 := f14 (by omega)
    have h4 := f24 h1 (by omega)
    rw [h4] at h3
    simp at h3
  show AW _ _ _ _ _ _ _
  refine aw_block ?_
  refine aw_blk ?_
  refine aw_loop ?_
  refine loop_opq n (fun q ts M => ∃ i', M = rowM m i n r d1 ∧ (i' = i1 + q ∧ i' ≤ j1 + 1) ∧ Go.Sort.scanUp (fun x => !Go.Sort.ltInt d1[a]! x) d1 j1 i' = I2 ∧ ts = [.sl i [] 1 0 n c, AV.int a, AV.int b, AV.int pv, .junk, .junk, .junk, .junk, .junk, AV.int i', AV.int j1, .junk, .junk, .junk, .junk, .junk, .junk, .junk, .junk, .junk, .junk, .junk, .junk, .junk, .junk, .junk, .junk, .junk, .junk, .junk, .junk, .junk, .junk, .junk, .junk, .junk, .junk, .junk, .junk, .junk, .junk, .junk, .junk, .junk, .junk, .junk, .junk, .junk, .junk, .junk, .junk, .junk, .junk, .junk, .junk, .junk, .junk, .junk, .junk, .junk, .junk, .junk, .junk, .junk, .junk, .junk, .junk, .junk, .junk, .junk, .junk, .junk, .junk, .junk, .junk, .junk, .junk, .junk, .junk, .junk, .junk, .junk, .junk, .junk]) _ _ ?hw trim_no ⟨i1, rfl, by omega, hI, rfl⟩ ?_
  case hw =>
    repeat (first | exact weak_nil | refine weak_same ?_ | refine weak_junk ?_)
  rintro q hq ts m' ⟨i', rfl, hi', hI', rfl⟩ R1 hR1 KK1 a1 a2 a3
  show AW _ _ _ _ _ _ _
  have fin1 : ∀ x29 x30 x31 x32 x33 x34 x35 x36 x37 x38 x39 x40 x41 x42 x43 : AV, i' = I2 → KK1 (.exit 2) [.sl i [] 1 0 n c, AV.int a, AV.int b, AV.int pv, .junk, .junk, .junk, .junk, .junk, AV.int i', AV.int j1, .junk, .junk, .junk, .junk, .junk, .junk, .junk, .junk, .junk, .junk, .junk, .junk, .junk, .junk, .junk, .junk, .junk, .junk, x29, x30, x31, x32, x33, x34, x35, x36, x37, x38, x39, x40, x41, x42, x43, .junk, .junk, .junk, .junk, .junk, .junk, .junk, .junk, .junk, .junk, .junk, .junk, .junk, .junk, .junk, .junk, .junk, .junk, .junk, .junk, .junk, .junk, .junk, .junk, .junk, .junk, .junk, .junk, .junk, .junk, .junk, .junk, .junk, .junk, .junk, .junk, .junk, .junk, .junk, .junk] (rowM m i n r d1) := by
    intro x29 x30 x31 x32 x33 x34 x35 x36 x37 x38 x39 x40 x41 x42 x43 hII
    subst hII
    refine a3 2 _ _ ?_
    conv => whnf
    repeat (first | (refine br.yes ?_; conv => whnf) | (refine br.no ?_; conv => whnf))
    refine aw_blk ?_
    refine aw_loop ?_
    refine loop_opq n (fun q ts M => ∃ j', M = rowM m i n r d1 ∧ (j' + q = j1 ∧ i' ≤ j' + 1) ∧ Go.Sort.scanDown (fun x => Go.Sort.ltInt d1[a]! x) d1 i' j' = J2 ∧ ts = [.sl i [] 1 0 n c, AV.int a, AV.int b, AV.int pv, .junk, .junk, .junk, .junk, .junk, AV.int i', AV.int j', .junk, .junk, .junk, .junk, .junk, .junk, .junk, .junk, .junk, .junk, .junk, .junk, .junk, .junk, .junk, .junk, .junk, .junk, .junk, .junk, .junk, .junk, .junk, .junk, .junk, .junk, .junk, .junk, .junk, .junk, .junk, .junk, .junk, .junk, .junk, .junk, .junk, .junk, .junk, .junk, .junk, .junk, .junk, .junk, .junk, .junk, .junk, .junk, .junk, .junk, .junk, .junk, .junk, .junk, .junk, .junk, .junk, .junk, .junk, .junk, .junk, .junk, .junk, .junk, .junk, .junk, .junk, .junk, .junk, .junk, .junk, .junk, .junk]) _ _ ?hw trim_no ⟨j1, rfl, by omega, hJ, rfl⟩ ?_
    case hw =>
      repeat (first | exact weak_nil | refine weak_same ?_ | refine weak_junk ?_)
    rintro q2 hq2 ts m' ⟨j', rfl, hj', hJ', rfl⟩ R2 hR2 KK2 b1 b2 b3
    show AW _ _ _ _ _ _ _
    have fin2 : ∀ x46 x47 x48 x49 x50 x51 x52 x53 x54 x55 x56 x57 x58 x59 : AV, j' = J2 → KK2 (.exit 4) [.sl i [] 1 0 n c, AV.int a, AV.int b, AV.int pv, .junk, .junk, .junk, .junk, .junk, AV.int i', AV.int j', .junk, .junk, .junk, .junk, .junk, .junk, .junk, .junk, .junk, .junk, .junk, .junk, .junk, .junk, .junk, .junk, .junk, .junk, .junk, .junk, .junk, .junk, .junk, .junk, .junk, .junk, .junk, .junk, .junk, .junk, .junk, .junk, .junk, .junk, .junk, x46, x47, x48, x49, x50, x51, x52, x53, x54, x55, x56, x57, x58, x59, .junk, .junk, .junk, .junk, .junk, .junk, .junk, .junk, .junk, .junk, .junk, .junk, .junk, .junk, .junk, .junk, .junk, .junk, .junk, .junk, .junk, .junk, .junk, .junk] (rowM m i n r d1) := by
      intro x46 x47 x48 x49 x50 x51 x52 x53 x54 x55 x56 x57 x58 x59 hJJ
      subst hJJ
      refine b3 4 _ _ ?_
      conv => whnf
      repeat (first | (refine br.yes ?_; conv => whnf) | (refine br.no ?_; conv => whnf))
      refine aw_assoc ?_
      refine AW.cut ?_
      conv => whnf
      repeat (first | (refine br.yes ?_; conv => whnf) | (refine br.no ?_; conv => whnf))
      rw [gtr_nat]
      refine AW.cut ?_
      conv => whnf
      repeat (first | (refine br.yes ?_; conv => whnf) | (refine br.no ?_; conv => whnf))
      refine br_intro (fun u1 => ?_) (fun u1 => ?_)
      · have u1' : i' > j' := by simpa using u1
        rw [if_pos u1'] at hd
        subst hd
        conv => whnf
        repeat (first | (refine br.yes ?_; conv => whnf) | (refine br.no ?_; conv => whnf))
        refine k3 0 _ _ ?_
        conv => whnf
        repeat (first | (refine br.yes ?_; conv => whnf) | (refine br.no ?_; conv => whnf))
        refine AW.cut ?_
        conv => whnf
        repeat (first | (refine br.yes ?_; conv => whnf) | (refine br.no ?_; conv => whnf))
        refine AW.mk ?_
        conv => whnf
        repeat (first | (refine br.yes ?_; conv => whnf) | (refine br.no ?_; conv => whnf))
        exact hK
      · have u1' : ¬ i' > j' := by simpa using u1
        rw [if_neg u1'] at hd
        have fne := fne (by omega)
        conv => whnf
        repeat (first | (refine br.yes ?_; conv => whnf) | (refine br.no ?_; conv => whnf))
        refine AW.cut ?_
        conv => whnf
        repeat (first | (refine br.yes ?_; conv => whnf) | (refine br.no ?_; conv => whnf))
        refine ⟨side_in ⟨by omega, by omega⟩, ?_⟩
        conv => whnf
        repeat (first | (refine br.yes ?_; conv => whnf) | (refine br.no ?_; conv => whnf))
        rw [row_get hi]
        conv => whnf
        repeat (first | (refine br.yes ?_; conv => whnf) | (refine br.no ?_; conv => whnf))
        refine ⟨side_in (at_lt (by omega)), ?_⟩
        rw [row_nth]
        conv => whnf
        repeat (first | (refine br.yes ?_; conv => whnf) | (refine br.no ?_; conv => whnf))
        refine ⟨side_in ⟨by omega, by omega⟩, ?_⟩
        conv => whnf
        repeat (first | (refine br.yes ?_; conv => whnf) | (refine br.no ?_; conv => whnf))
        rw [row_get hi]
        conv => whnf
        repeat (first | (refine br.yes ?_; conv => whnf) | (refine br.no ?_; conv => whnf))
        refine ⟨side_in (at_lt (by omega)), ?_⟩
        rw [row_nth]
        conv => whnf
        repeat (first | (refine br.yes ?_; conv => whnf) | (refine br.no ?_; conv => whnf))
        refine ⟨side_in ⟨by omega, by omega⟩, ?_⟩
        conv => whnf
        repeat (first | (refine br.yes ?_; conv => whnf) | (refine br.no ?_; conv => whnf))
        rw [row_get hi]
        conv => whnf
        repeat (first | (refine br.yes ?_; conv => whnf) | (refine br.no ?_; conv => whnf))
        refine ⟨side_in (at_lt (by omega)), ?_⟩
        conv => whnf
        repeat (first | (refine br.yes ?_; conv => whnf) | (refine br.no ?_; conv => whnf))
        rw [row_put]
        conv => whnf
        repeat (first | (refine br.yes ?_; conv => whnf) | (refine br.no ?_; conv => whnf))
        refine ⟨side_in ⟨by omega, by omega⟩, ?_⟩
        conv => whnf
        repeat (first | (refine br.yes ?_; conv => whnf) | (refine br.no ?_; conv => whnf))
        rw [row_get hi]
        conv => whnf
        repeat (first | (refine br.yes ?_; conv => whnf) | (refine br.no ?_; conv => whnf))
        refine ⟨side_in (at_lt (by omega)), ?_⟩
        conv => whnf
        repeat (first | (refine br.yes ?_; conv => whnf) | (refine br.no ?_; conv => whnf))
        rw [row_put]
        conv => whnf
        repeat (first | (refine br.yes ?_; conv => whnf) | (refine br.no ?_; conv => whnf))
        rw [swp_eq]
        conv => whnf
        repeat (first | (refine br.yes ?_; conv => whnf) | (refine br.no ?_; conv => whnf))
        refine AW.cut ?_
        conv => whnf
        repeat (first | (refine br.yes ?_; conv => whnf) | (refine br.no ?_; conv => whnf))
        rw [add_one (by omega)]
        refine AW.mk ?_
        conv => whnf
        repeat (first | (refine br.yes ?_; conv => whnf) | (refine br.no ?_; conv => whnf))
        rw [sub_one (by omega) (by omega)]
        refine k1 _ _ (hR (by omega) _ _ _ _ ?hw3 trim_no ⟨_, i' + 1, j' - 1, rfl, by omega, hd, rfl⟩)
        case hw3 =>
          repeat (first | exact weak_nil | refine weak_same ?_ | refine weak_junk ?_)
    refine aw_assoc ?_
    refine AW.cut ?_
    conv => whnf
    repeat (first | (refine br.yes ?_; conv => whnf) | (refine br.no ?_; conv => whnf))
    rw [leq_nat]
    refine br_intro (fun g1 => ?_) (fun g1 => ?_)
    · have g1' : i' ≤ j' := by simpa using g1
      conv => whnf
      repeat (first | (refine br.yes ?_; conv => whnf) | (refine br.no ?_; conv => whnf))
      refine ⟨side_in ⟨by omega, by omega⟩, ?_⟩
      conv => whnf
      repeat (first | (refine br.yes ?_; conv => whnf) | (refine br.no ?_; conv => whnf))
      rw [row_get hi]
      conv => whnf
      repeat (first | (refine br.yes ?_; conv => whnf) | (refine br.no ?_; conv => whnf))
      refine ⟨side_in (at_lt (by omega)), ?_⟩
      rw [row_nth]
      conv => whnf
      repeat (first | (refine br.yes ?_; conv => whnf) | (refine br.no ?_; conv => whnf))
      refine ⟨side_in ⟨by omega, by omega⟩, ?_⟩
      conv => whnf
      repeat (first | (refine br.yes ?_; conv => whnf) | (refine br.no ?_; conv => whnf))
      rw [row_get hi]
      conv => whnf
      repeat (first | (refine br.yes ?_; conv => whnf) | (refine br.no ?_; conv => whnf))
      refine ⟨side_in (at_lt (by omega)), ?_⟩
      rw [row_nth]
      conv => whnf
      repeat (first | (refine br.yes ?_; conv => whnf) | (refine br.no ?_; conv => whnf))
      refine q_keep (AV.bool (Go.Sort.ltInt d1[a]! d1[j']!)) (fun K' h => c_Less h) ?_
      conv => whnf
      repeat (first | (refine br.yes ?_; conv => whnf) | (refine br.no ?_; conv => whnf))
      refine AW.cut ?_
      conv => whnf
      repeat (first | (refine br.yes ?_; conv => whnf) | (refine br.no ?_; conv => whnf))
      refine br_intro (fun g2 => ?_) (fun g2 => ?_)
      · conv => whnf
        repeat (first | (refine br.yes ?_; conv => whnf) | (refine br.no ?_; conv => whnf))
        refine aw_block ?_
        refine AW.mk ?_
        conv => whnf
        repeat (first | (refine br.yes ?_; conv => whnf) | (refine br.no ?_; conv => whnf))
        rw [sub_one (by omega) (by omega)]
        refine b1 _ _ (hR2 (by omega) _ _ _ _ ?hw2 trim_no ⟨j' - 1, rfl, by omega, (scanDown_go (by omega) g1' g2).symm.trans hJ', rfl⟩)
        case hw2 =>
          repeat (first | exact weak_nil | refine weak_same ?_ | refine weak_junk ?_)
      · conv => whnf
        repeat (first | (refine br.yes ?_; conv => whnf) | (refine br.no ?_; conv => whnf))
        exact fin2 _ _ _ _ _ _ _ _ _ _ _ _ _ _ ((scanDown_stop (.inr g2)).symm.trans hJ')
    · have g1' : ¬ i' ≤ j' := by simpa using g1
      conv => whnf
      repeat (first | (refine br.yes ?_; conv => whnf) | (refine br.no ?_; conv => whnf))
      refine AW.cut ?_
      conv => whnf
      repeat (first | (refine br.yes ?_; conv => whnf) | (refine br.no ?_; conv => whnf))
      exact fin2 _ _ _ _ _ _ _ _ _ _ _ _ _ _ ((scanDown_stop (.inl g1')).symm.trans hJ')
  refine aw_assoc ?_
  refine AW.cut ?_
  conv => whnf
  repeat (first | (refine br.yes ?_; conv => whnf) | (refine br.no ?_; conv => whnf))
  rw [leq_nat]
  refine br_intro (fun g1 => ?_) (fun g1 => ?_)
  · have g1' : i' ≤ j1 := by simpa using g1
    conv => whnf
    repeat (first | (refine br.yes ?_; conv => whnf) | (refine br.no ?_; conv => whnf))
    refine ⟨side_in ⟨by omega, by omega⟩, ?_⟩
    conv => whnf
    repeat (first | (refine br.yes ?_; conv => whnf) | (refine br.no ?_; conv => whnf))
    rw [row_get hi]
    conv => whnf
    repeat (first | (refine br.yes ?_; conv => whnf) | (refine br.no ?_; conv => whnf))
    refine ⟨side_in (at_lt (by omega)), ?_⟩
    rw [row_nth]
    conv => whnf
    repeat (first | (refine br.yes ?_; conv => whnf) | (refine br.no ?_; conv => whnf))
    refine ⟨side_in ⟨by omega, by omega⟩, ?_⟩
    conv => whnf
    repeat (first | (refine br.yes ?_; conv => whnf) | (refine br.no ?_; conv => whnf))
    rw [row_get hi]
    conv => whnf
    repeat (first | (refine br.yes ?_; conv => whnf) | (refine br.no ?_; conv => whnf))
    refine ⟨side_in (at_lt (by omega)), ?_⟩
    rw [row_nth]
    conv => whnf
    repeat (first | (refine br.yes ?_; conv => whnf) | (refine br.no ?_; conv => whnf))
    refine q_keep (AV.bool (Go.Sort.ltInt d1[a]! d1[i']!)) (fun K' h => c_Less h) ?_
    conv => whnf
    repeat (first | (refine br.yes ?_; conv => whnf) | (refine br.no ?_; conv => whnf))
    refine AW.cut ?_
    conv => whnf
    repeat (first | (refine br.yes ?_; conv => whnf) | (refine br.no ?_; conv => whnf))
    refine br_intro (fun g2 => ?_) (fun g2 => ?_)
    · have hl := notB_t g2
      conv => whnf
      repeat (first | (refine br.yes ?_; conv => whnf) | (refine br.no ?_; conv => whnf))
      refine aw_block ?_
      refine AW.mk ?_
      conv => whnf
      repeat (first | (refine br.yes ?_; conv => whnf) | (refine br.no ?_; conv => whnf))
      rw [add_one (by omega)]
      refine a1 _ _ (hR1 (by omega) _ _ _ _ ?hw2 trim_no ⟨i' + 1, rfl, by omega, (scanUp_go g1' (by simp [hl])).symm.trans hI', rfl⟩)
      case hw2 =>
        repeat (first | exact weak_nil | refine weak_same ?_ | refine weak_junk ?_)
    · have hl := notB_f g2
      conv => whnf
      repeat (first | (refine br.yes ?_; conv => whnf) | (refine br.no ?_; conv => whnf))
      exact fin1 _ _ _ _ _ _ _ _ _ _ _ _ _ _ _ ((scanUp_stop (.inr (by simp [hl]))).symm.trans hI')
  · have g1' : ¬ i' ≤ j1 := by simpa using g1
    conv => whnf
    repeat (first | (refine br.yes ?_; conv => whnf) | (refine br.no ?_; conv => whnf))
    refine AW.cut ?_
    conv => whnf
    repeat (first | (refine br.yes ?_; conv => whnf) | (refine br.no ?_; conv => whnf))
    exact fin1 _ _ _ _ _ _ _ _ _ _ _ _ _ _ _ ((scanUp_stop (.inl g1')).symm.trans hI')
end
end Go.Proofs.Ytfkbgfpidolhhaa
