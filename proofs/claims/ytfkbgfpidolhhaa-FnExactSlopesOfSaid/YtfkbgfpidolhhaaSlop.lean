/- The law of the slopes, walked. -/
import Derived.Test.YtfkbgfpidolhhaaSor2
namespace Go.Proofs.Ytfkbgfpidolhhaa
open Go Go.Fw
section
variable {w0 : World} {m : MS} {K : AV → MS → Prop}
/-! the most frequent value of a list, the least of equals -/
def IsMost (ys : List Int) (b : Int) : Prop := (ys = [] ∧ b = 0) ∨ (b ∈ ys ∧ ∀ x ∈ ys, ys.count x < ys.count b ∨ (ys.count x = ys.count b ∧ b ≤ x))
theorem most_unique {ys : List Int} {b b' : Int} (h : IsMost ys b) (h' : IsMost ys b') : b = b' := by
  rcases h with ⟨h1, h2⟩ | ⟨h1, h2⟩
  · rcases h' with ⟨h3, h4⟩ | ⟨h3, h4⟩
    · omega
    · subst h1; simp at h3
  · rcases h' with ⟨h3, h4⟩ | ⟨h3, h4⟩
    · subst h3; simp at h1
    · have a1 := h2 b' h3
      have a2 := h4 b h1
      omega
theorem most_perm {ys zs : List Int} {b : Int} (hp : zs.Perm ys) (h : IsMost zs b) : IsMost ys b := by
  rcases h with ⟨h1, h2⟩ | ⟨h1, h2⟩
  · subst h1
    exact .inl ⟨by simpa using hp.symm, h2⟩
  · refine .inr ⟨hp.mem_iff.1 h1, fun x hx => ?_⟩
    have := h2 x (hp.mem_iff.2 hx)
    rw [← hp.count_eq, ← hp.count_eq]
    exact this
theorem take_next {ys : List Int} {k : Nat} (hk : k < ys.length) : ys.take (k + 1) = ys.take k ++ [ys.getD k 0] := by
  rw [List.take_add_one, List.getElem?_eq_getElem hk, List.getD_eq_getElem?_getD, List.getElem?_eq_getElem hk]
  rfl
def MostTo (ys : List Int) (k : Nat) (b : Int) (c : Nat) : Prop := (k = 0 ∧ b = 0 ∧ c = 0) ∨ (b ∈ ys.take k ∧ c = ys.count b ∧ ∀ x ∈ ys.take k, ys.count x < c ∨ (ys.count x = c ∧ b ≤ x))
theorem count_pos {ys : List Int} {k : Nat} (hk : k < ys.length) : 0 < ys.count (ys.getD k 0) := by
  rw [List.count_pos_iff, List.getD_eq_getElem?_getD, List.getElem?_eq_getElem hk]
  exact List.getElem_mem hk
theorem most_take {ys : List Int} {k : Nat} {b : Int} {c : Nat} (h : MostTo ys k b c) (hk : k < ys.length) (ht : c < ys.count (ys.getD k 0) ∨ (ys.count (ys.getD k 0) = c ∧ ys.getD k 0 < b)) : MostTo ys (k + 1) (ys.getD k 0) (ys.count (ys.getD k 0)) := by
  unfold MostTo
  rw [take_next hk]
  refine .inr ⟨by simp, rfl, ?_⟩
  intro x hx
  rw [List.mem_append, List.mem_singleton] at hx
  rcases hx with hx | hx
  · rcases h with ⟨h1, h2, h3⟩ | ⟨h1, h2, h3⟩
    · subst h1; simp at hx
    · have := h3 x hx
      omega
  · subst hx; exact .inr ⟨rfl, Int.le_refl _⟩
theorem most_keep {ys : List Int} {k : Nat} {b : Int} {c : Nat} (h : MostTo ys k b c) (hk : k < ys.length) (ht : ¬ c < ys.count (ys.getD k 0)) (ht2 : ys.count (ys.getD k 0) = c → b ≤ ys.getD k 0) : MostTo ys (k + 1) b c := by
  have hp := count_pos hk
  unfold MostTo
  rw [take_next hk]
  rcases h with ⟨h1, h2, h3⟩ | ⟨h1, h2, h3⟩
  · omega
  · refine .inr ⟨by rw [List.mem_append]; exact .inl h1, h2, ?_⟩
    intro x hx
    rw [List.mem_append, List.mem_singleton] at hx
    rcases hx with hx | hx
    · exact h3 x hx
    · subst hx
      rcases Nat.lt_or_ge (ys.count (ys.getD k 0)) c with h4 | h4
      · exact .inl h4
      · exact .inr ⟨by omega, ht2 (by omega)⟩
theorem most_all {ys : List Int} {k : Nat} {b : Int} {c : Nat} (h : MostTo ys k b c) (hk : k = ys.length) : IsMost ys b := by
  subst hk
  unfold MostTo at h
  rw [List.take_length] at h
  rcases h with ⟨h1, h2, h3⟩ | ⟨h1, h2, h3⟩
  · exact .inl ⟨List.eq_nil_of_length_eq_zero h1, h2⟩
  · subst h2; exact .inr ⟨h1, h3⟩
def RunTo (zs : List Int) (k : Nat) (b : Int) (c run : Nat) : Prop := (k = 0 ∧ b = 0 ∧ c = 0) ∨
  (0 < k ∧ b ∈ zs.take k ∧ c = (zs.take k).count b ∧ (∀ x ∈ zs.take k, (zs.take k).count x < c ∨ ((zs.take k).count x = c ∧ b ≤ x)) ∧ run = (zs.take k).count (zs.getD (k - 1) 0))
theorem sorted_le {zs : List Int} (hs : zs.Pairwise (· ≤ ·)) {k : Nat} (hk : k < zs.length) : ∀ x ∈ zs.take k, x ≤ zs.getD k 0 := by
  intro x hx
  rw [List.mem_take_iff_getElem] at hx
  obtain ⟨j, hj, rfl⟩ := hx
  rw [List.getD_eq_getElem?_getD, List.getElem?_eq_getElem hk]
  exact (List.pairwise_iff_getElem.1 hs) j k (by omega) hk (by omega)
theorem run_new {zs : List Int} (hs : zs.Pairwise (· ≤ ·)) {k : Nat} (hk : k < zs.length) (h0 : 0 < k) (hne : zs.getD k 0 ≠ zs.getD (k - 1) 0) : (zs.take k).count (zs.getD k 0) = 0 := by
  rw [List.count_eq_zero]
  intro hm
  obtain ⟨k, rfl⟩ : ∃ k', k = k' + 1 := ⟨k - 1, by omega⟩
  simp only [Nat.add_sub_cancel] at hne
  have h1 := sorted_le hs hk (zs.getD k 0) (by rw [take_next (by omega)]; simp)
  rw [take_next (by omega), List.mem_append, List.mem_singleton] at hm
  rcases hm with hm | hm
  · have h2 := sorted_le hs (show k < zs.length by omega) _ hm
    omega
  · exact hne hm
theorem run_take {zs : List Int} {k : Nat} {b : Int} {c run : Nat} (h : RunTo zs k b c run) (hk : k < zs.length) (ht : c < (zs.take k).count (zs.getD k 0) + 1) : RunTo zs (k + 1) (zs.getD k 0) ((zs.take k).count (zs.getD k 0) + 1) ((zs.take k).count (zs.getD k 0) + 1) := by
  unfold RunTo
  rw [take_next hk, Nat.add_sub_cancel]
  have hv : (zs.take k ++ [zs.getD k 0]).count (zs.getD k 0) = (zs.take k).count (zs.getD k 0) + 1 := by rw [List.count_append]; simp
  refine .inr ⟨by omega, by simp, hv.symm, ?_, hv.symm⟩
  intro x hx
  by_cases hxv : x = zs.getD k 0
  · subst hxv; exact .inr ⟨hv, Int.le_refl _⟩
  · rw [List.mem_append, List.mem_singleton] at hx
    rcases hx with hx | hx
    · have hc : (zs.take k ++ [zs.getD k 0]).count x = (zs.take k).count x := by
        rw [List.count_append, List.count_eq_zero.2 (show x ∉ [zs.getD k 0] by simpa using hxv), Nat.add_zero]
      rw [hc]
      rcases h with ⟨h1, h2, h3⟩ | ⟨h0, h1, h2, h3, h4⟩
      · subst h1; simp at hx
      · have := h3 x hx
        omega
    · exact absurd hx hxv
theorem run_keep {zs : List Int} (hs : zs.Pairwise (· ≤ ·)) {k : Nat} {b : Int} {c run : Nat} (h : RunTo zs k b c run) (hk : k < zs.length) (ht : ¬ c < (zs.take k).count (zs.getD k 0) + 1) : RunTo zs (k + 1) b c ((zs.take k).count (zs.getD k 0) + 1) := by
  unfold RunTo
  rw [take_next hk, Nat.add_sub_cancel]
  have hv : (zs.take k ++ [zs.getD k 0]).count (zs.getD k 0) = (zs.take k).count (zs.getD k 0) + 1 := by rw [List.count_append]; simp
  rcases h with ⟨h1, h2, h3⟩ | ⟨h0, h1, h2, h3, h4⟩
  · omega
  have hc : ∀ x, x ≠ zs.getD k 0 → (zs.take k ++ [zs.getD k 0]).count x = (zs.take k).count x := by
    intro x hxv
    rw [List.count_append, List.count_eq_zero.2 (show x ∉ [zs.getD k 0] by simpa using hxv), Nat.add_zero]
  have hb : b ≠ zs.getD k 0 := by
    intro hb
    rw [← hb] at ht
    omega
  refine .inr ⟨by omega, by rw [List.mem_append]; exact .inl h1, by rw [hc b hb]; exact h2, ?_, hv.symm⟩
  intro x hx
  by_cases hxv : x = zs.getD k 0
  · subst hxv
    rw [hv]
    have := sorted_le hs hk b h1
    omega
  · rw [hc x hxv]
    rw [List.mem_append, List.mem_singleton] at hx
    rcases hx with hx | hx
    · exact h3 x hx
    · exact absurd hx hxv
theorem run_all {zs : List Int} {k : Nat} {b : Int} {c run : Nat} (h : RunTo zs k b c run) (hk : k = zs.length) : IsMost zs b := by
  subst hk
  unfold RunTo at h
  rw [List.take_length] at h
  rcases h with ⟨h1, h2, h3⟩ | ⟨h0, h1, h2, h3, h4⟩
  · exact .inl ⟨List.eq_nil_of_length_eq_zero h1, h2⟩
  · subst h2; exact .inr ⟨h1, h3⟩
theorem run_same {zs : List Int} {k : Nat} {b : Int} {c run : Nat} (h : RunTo zs k b c run) (h0 : 0 < k) (he : zs.getD k 0 = zs.getD (k - 1) 0) : run = (zs.take k).count (zs.getD k 0) := by
  rcases h with ⟨h1, h2, h3⟩ | ⟨_, h1, h2, h3, h4⟩
  · omega
  · rw [he]; exact h4
theorem sort_sorted (ys : List Int) : (ys.mergeSort (fun x y => decide (x ≤ y))).Pairwise (· ≤ ·) := by
  have h := List.pairwise_mergeSort (le := fun (x y : Int) => decide (x ≤ y)) (by intro a b c h1 h2; simp at h1 h2 ⊢; omega) (by intro a b; simp; omega) ys
  exact h.imp (by intro a b h; simpa using h)
theorem sort_perm (ys : List Int) : (ys.mergeSort (fun x y => decide (x ≤ y))).Perm ys := List.mergeSort_perm _ _
/-! the most frequent value, walked on both sides -/
theorem take_count {ys : List Int} {q : Nat} {v : Int} (hq : q < ys.length) : (ys.take (q + 1)).count v = (ys.take q).count v + (if ys.getD q 0 = v then 1 else 0) := by
  rw [take_next hq, List.count_append, List.count_singleton]
  simp
set_option maxRecDepth 20000 in
set_option maxHeartbeats 1600000 in
theorem c64 {i n c r : Nat} {o : Bool} {ys : List Int} (hi : getE m i = some ⟨o, .ai n ys, r⟩) (hx : ys.length = n) (hn : n ≤ 400000) (hK : ∀ b, IsMost ys b → K (AV.int b) m) : CallLeaf Try.prog w0 64 [.sl i [] 1 0 n c] m K := by
  refine fn_cut hmix h64 ?_
  conv => whnf
  repeat (first | (refine br.yes ?_; conv => whnf) | (refine br.no ?_; conv => whnf))
  refine AW.cut ?_
  conv => whnf
  repeat (first | (refine br.yes ?_; conv => whnf) | (refine br.no ?_; conv => whnf))
  refine AW.cut ?_
  conv => whnf
  repeat (first | (refine br.yes ?_; conv => whnf) | (refine br.no ?_; conv => whnf))
  refine aw_assoc ?_
  refine AW.cut ?_
  conv => whnf
  repeat (first | (refine br.yes ?_; conv => whnf) | (refine br.no ?_; conv => whnf))
  refine aw_blk ?_
  refine aw_loop ?_
  refine loop_opq n (fun k ts M => ∃ (b : Int) (cnt : Nat), M = m ∧ MostTo ys k b cnt ∧ k ≤ n ∧ ts = [.sl i [] 1 0 n c, .junk, .junk, AV.int b, AV.int cnt, AV.int k, .junk, .junk, .junk, .junk, .junk, .junk, .junk, .junk, .junk, .junk, .junk, .junk, .junk, .junk, .junk, .junk, .junk, .junk, .junk, .junk, .junk, .junk, .junk, .junk, .junk, .junk, .junk, .junk, .junk, .junk, .junk, .junk, .junk, .junk, .junk, .junk, .junk, .junk, .junk, .junk, .junk, .junk, .junk, .junk, .junk, .junk, .junk]) _ _ ?hw trim_no ⟨0, 0, rfl, .inl ⟨rfl, rfl, rfl⟩, by omega, rfl⟩ ?_
  case hw =>
    repeat (first | exact weak_nil | refine weak_same ?_ | refine weak_junk ?_)
  rintro k hk ts m' ⟨b, cnt, hM, hI, hkn, rfl⟩ R hR KK k1 k2 k3
  subst m'
  show AW _ _ _ _ _ _ _
  refine aw_assoc ?_
  refine AW.cut ?_
  conv => whnf
  repeat (first | (refine br.yes ?_; conv => whnf) | (refine br.no ?_; conv => whnf))
  rw [lss_nat]
  refine AW.cut ?_
  conv => whnf
  repeat (first | (refine br.yes ?_; conv => whnf) | (refine br.no ?_; conv => whnf))
  refine br_intro (fun h1 => ?_) (fun h1 => ?_)
  · have h1' : k < n := by simpa using h1
    conv => whnf
    repeat (first | (refine br.yes ?_; conv => whnf) | (refine br.no ?_; conv => whnf))
    refine aw_blk ?_
    refine AW.cut ?_
    conv => whnf
    repeat (first | (refine br.yes ?_; conv => whnf) | (refine br.no ?_; conv => whnf))
    refine aw_assoc ?_
    refine AW.cut ?_
    conv => whnf
    repeat (first | (refine br.yes ?_; conv => whnf) | (refine br.no ?_; conv => whnf))
    refine aw_blk ?_
    refine aw_loop ?_
    refine loop_opq n (fun q ts M => M = m ∧ q ≤ n ∧ ts = [.sl i [] 1 0 n c, .junk, .junk, AV.int b, AV.int cnt, AV.int k, AV.int ((ys.take q).count (ys.getD k 0) : Nat), AV.int q, .junk, .junk, .junk, .junk, .junk, .junk, .junk, .junk, .junk, .junk, .junk, .junk, .junk, .junk, .junk, .junk, .junk, .junk, .junk, .junk, .junk, .junk, .junk, .junk, .junk, .junk, .junk, .junk, .junk, .junk, .junk, .junk, .junk, .junk, .junk, .junk, .junk, .junk, .junk, .junk, .junk, .junk, .junk, .junk, .junk]) _ _ ?hw2 trim_no ⟨rfl, by omega, rfl⟩ ?_
    case hw2 =>
      repeat (first | exact weak_nil | refine weak_same ?_ | refine weak_junk ?_)
    rintro q hq ts m' ⟨hM, hqn, rfl⟩ R1 hR1 KK1 a1 a2 a3
    subst m'
    have hcq : (ys.take q).count (ys.getD k 0) ≤ 400000 := by
      have := List.count_le_length (a := ys.getD k 0) (l := ys.take q)
      rw [List.length_take] at this
      omega
    show AW _ _ _ _ _ _ _
    refine aw_assoc ?_
    refine AW.cut ?_
    conv => whnf
    repeat (first | (refine br.yes ?_; conv => whnf) | (refine br.no ?_; conv => whnf))
    rw [lss_nat]
    refine AW.cut ?_
    conv => whnf
    repeat (first | (refine br.yes ?_; conv => whnf) | (refine br.no ?_; conv => whnf))
    refine br_intro (fun g1 => ?_) (fun g1 => ?_)
    · have g1' : q < n := by simpa using g1
      have htc := take_count (v := ys.getD k 0) (show q < ys.length by omega)
      conv => whnf
      repeat (first | (refine br.yes ?_; conv => whnf) | (refine br.no ?_; conv => whnf))
      refine aw_blk ?_
      refine AW.cut ?_
      conv => whnf
      repeat (first | (refine br.yes ?_; conv => whnf) | (refine br.no ?_; conv => whnf))
      refine ⟨side_in ⟨by omega, by omega⟩, ?_⟩
      conv => whnf
      repeat (first | (refine br.yes ?_; conv => whnf) | (refine br.no ?_; conv => whnf))
      rw [hi]
      conv => whnf
      repeat (first | (refine br.yes ?_; conv => whnf) | (refine br.no ?_; conv => whnf))
      refine ⟨side_in (at_lt (by omega)), ?_⟩
      rw [nth_at]
      conv => whnf
      repeat (first | (refine br.yes ?_; conv => whnf) | (refine br.no ?_; conv => whnf))
      refine ⟨side_in ⟨by omega, by omega⟩, ?_⟩
      conv => whnf
      repeat (first | (refine br.yes ?_; conv => whnf) | (refine br.no ?_; conv => whnf))
      rw [hi]
      conv => whnf
      repeat (first | (refine br.yes ?_; conv => whnf) | (refine br.no ?_; conv => whnf))
      refine ⟨side_in (at_lt (by omega)), ?_⟩
      rw [nth_at]
      conv => whnf
      repeat (first | (refine br.yes ?_; conv => whnf) | (refine br.no ?_; conv => whnf))
      refine AW.cond ?_
      conv => whnf
      repeat (first | (refine br.yes ?_; conv => whnf) | (refine br.no ?_; conv => whnf))
      refine br_intro (fun g2 => ?_) (fun g2 => ?_)
      · have g2' : ys.getD q 0 = ys.getD k 0 := by rw [cmI_eql] at g2; simpa using g2
        rw [if_pos g2'] at htc
        refine AW.mk ?_
        conv => whnf
        repeat (first | (refine br.yes ?_; conv => whnf) | (refine br.no ?_; conv => whnf))
        rw [add_one (by omega), ← htc]
        conv => whnf
        repeat (first | (refine br.yes ?_; conv => whnf) | (refine br.no ?_; conv => whnf))
        refine AW.mk ?_
        conv => whnf
        repeat (first | (refine br.yes ?_; conv => whnf) | (refine br.no ?_; conv => whnf))
        rw [add_one (by omega)]
        refine a1 _ _ (hR1 (by omega) _ _ _ _ ?hw3 trim_no ⟨rfl, by omega, rfl⟩)
        case hw3 =>
          repeat (first | exact weak_nil | refine weak_same ?_ | refine weak_junk ?_)
      · have g2' : ¬ ys.getD q 0 = ys.getD k 0 := by rw [cmI_eql] at g2; simpa using g2
        have htc : (ys.take (q + 1)).count (ys.getD k 0) = (ys.take q).count (ys.getD k 0) := by rw [htc, if_neg g2']; rfl
        rw [← htc]
        refine AW.mk ?_
        conv => whnf
        repeat (first | (refine br.yes ?_; conv => whnf) | (refine br.no ?_; conv => whnf))
        refine AW.mk ?_
        conv => whnf
        repeat (first | (refine br.yes ?_; conv => whnf) | (refine br.no ?_; conv => whnf))
        rw [add_one (by omega)]
        refine a1 _ _ (hR1 (by omega) _ _ _ _ ?hw4 trim_no ⟨rfl, by omega, rfl⟩)
        case hw4 =>
          repeat (first | exact weak_nil | refine weak_same ?_ | refine weak_junk ?_)
    · have g1' : q = n := by simp at g1; omega
      subst g1'
      rw [show ys.take q = ys by rw [← hx]; exact List.take_length] at hcq ⊢
      conv => whnf
      repeat (first | (refine br.yes ?_; conv => whnf) | (refine br.no ?_; conv => whnf))
      refine a3 2 _ _ ?_
      conv => whnf
      repeat (first | (refine br.yes ?_; conv => whnf) | (refine br.no ?_; conv => whnf))
      refine AW.cut ?_
      conv => whnf
      repeat (first | (refine br.yes ?_; conv => whnf) | (refine br.no ?_; conv => whnf))
      rw [gtr_nat]
      refine br_intro (fun u1 => ?_) (fun u1 => ?_)
      · have u1' : cnt < ys.count (ys.getD k 0) := by simpa using u1
        conv => whnf
        repeat (first | (refine br.yes ?_; conv => whnf) | (refine br.no ?_; conv => whnf))
        refine AW.cond ?_
        conv => whnf
        repeat (first | (refine br.yes ?_; conv => whnf) | (refine br.no ?_; conv => whnf))
        refine AW.cut ?_
        conv => whnf
        repeat (first | (refine br.yes ?_; conv => whnf) | (refine br.no ?_; conv => whnf))
        refine ⟨side_in ⟨by omega, by omega⟩, ?_⟩
        conv => whnf
        repeat (first | (refine br.yes ?_; conv => whnf) | (refine br.no ?_; conv => whnf))
        rw [hi]
        conv => whnf
        repeat (first | (refine br.yes ?_; conv => whnf) | (refine br.no ?_; conv => whnf))
        refine ⟨side_in (at_lt (by omega)), ?_⟩
        rw [nth_at]
        conv => whnf
        repeat (first | (refine br.yes ?_; conv => whnf) | (refine br.no ?_; conv => whnf))
        refine AW.mk ?_
        conv => whnf
        repeat (first | (refine br.yes ?_; conv => whnf) | (refine br.no ?_; conv => whnf))
        refine AW.mk ?_
        conv => whnf
        repeat (first | (refine br.yes ?_; conv => whnf) | (refine br.no ?_; conv => whnf))
        rw [add_one (by omega)]
        refine k1 _ _ (hR (by omega) _ _ _ _ ?hwtA trim_no ⟨_, _, rfl, most_take hI (by omega) (.inl u1'), by omega, rfl⟩)
        case hwtA =>
          repeat (first | exact weak_nil | refine weak_same ?_ | refine weak_junk ?_)
      · have u1' : ¬ cnt < ys.count (ys.getD k 0) := by simpa using u1
        conv => whnf
        repeat (first | (refine br.yes ?_; conv => whnf) | (refine br.no ?_; conv => whnf))
        rw [eql_nat]
        refine br_intro (fun u2 => ?_) (fun u2 => ?_)
        · have u2' : ys.count (ys.getD k 0) = cnt := by simpa using u2
          conv => whnf
          repeat (first | (refine br.yes ?_; conv => whnf) | (refine br.no ?_; conv => whnf))
          refine ⟨side_in ⟨by omega, by omega⟩, ?_⟩
          conv => whnf
          repeat (first | (refine br.yes ?_; conv => whnf) | (refine br.no ?_; conv => whnf))
          rw [hi]
          conv => whnf
          repeat (first | (refine br.yes ?_; conv => whnf) | (refine br.no ?_; conv => whnf))
          refine ⟨side_in (at_lt (by omega)), ?_⟩
          rw [nth_at]
          conv => whnf
          repeat (first | (refine br.yes ?_; conv => whnf) | (refine br.no ?_; conv => whnf))
          refine AW.cond ?_
          conv => whnf
          repeat (first | (refine br.yes ?_; conv => whnf) | (refine br.no ?_; conv => whnf))
          refine br_intro (fun u3 => ?_) (fun u3 => ?_)
          · have u3' : ys.getD k 0 < b := by rw [cmI_lss] at u3; simpa using u3
            refine AW.cut ?_
            conv => whnf
            repeat (first | (refine br.yes ?_; conv => whnf) | (refine br.no ?_; conv => whnf))
            refine ⟨side_in ⟨by omega, by omega⟩, ?_⟩
            conv => whnf
            repeat (first | (refine br.yes ?_; conv => whnf) | (refine br.no ?_; conv => whnf))
            rw [hi]
            conv => whnf
            repeat (first | (refine br.yes ?_; conv => whnf) | (refine br.no ?_; conv => whnf))
            refine ⟨side_in (at_lt (by omega)), ?_⟩
            rw [nth_at]
            conv => whnf
            repeat (first | (refine br.yes ?_; conv => whnf) | (refine br.no ?_; conv => whnf))
            refine AW.mk ?_
            conv => whnf
            repeat (first | (refine br.yes ?_; conv => whnf) | (refine br.no ?_; conv => whnf))
            refine AW.mk ?_
            conv => whnf
            repeat (first | (refine br.yes ?_; conv => whnf) | (refine br.no ?_; conv => whnf))
            rw [add_one (by omega)]
            refine k1 _ _ (hR (by omega) _ _ _ _ ?hwtB trim_no ⟨_, _, rfl, most_take hI (by omega) (.inr ⟨u2', u3'⟩), by omega, rfl⟩)
            case hwtB =>
              repeat (first | exact weak_nil | refine weak_same ?_ | refine weak_junk ?_)
          · have u3' : ¬ ys.getD k 0 < b := by rw [cmI_lss] at u3; simpa using u3
            refine AW.mk ?_
            conv => whnf
            repeat (first | (refine br.yes ?_; conv => whnf) | (refine br.no ?_; conv => whnf))
            refine AW.mk ?_
            conv => whnf
            repeat (first | (refine br.yes ?_; conv => whnf) | (refine br.no ?_; conv => whnf))
            rw [add_one (by omega)]
            refine k1 _ _ (hR (by omega) _ _ _ _ ?hwkA trim_no ⟨_, _, rfl, most_keep hI (by omega) u1' (fun _ => by omega), by omega, rfl⟩)
            case hwkA =>
              repeat (first | exact weak_nil | refine weak_same ?_ | refine weak_junk ?_)
        · have u2' : ¬ ys.count (ys.getD k 0) = cnt := by simpa using u2
          conv => whnf
          repeat (first | (refine br.yes ?_; conv => whnf) | (refine br.no ?_; conv => whnf))
          refine AW.cond ?_
          conv => whnf
          repeat (first | (refine br.yes ?_; conv => whnf) | (refine br.no ?_; conv => whnf))
          refine AW.mk ?_
          conv => whnf
          repeat (first | (refine br.yes ?_; conv => whnf) | (refine br.no ?_; conv => whnf))
          refine AW.mk ?_
          conv => whnf
          repeat (first | (refine br.yes ?_; conv => whnf) | (refine br.no ?_; conv => whnf))
          rw [add_one (by omega)]
          refine k1 _ _ (hR (by omega) _ _ _ _ ?hwkB trim_no ⟨_, _, rfl, most_keep hI (by omega) u1' (fun h => absurd h u2'), by omega, rfl⟩)
          case hwkB =>
            repeat (first | exact weak_nil | refine weak_same ?_ | refine weak_junk ?_)
  · have h1' : k = n := by simp at h1; omega
    conv => whnf
    repeat (first | (refine br.yes ?_; conv => whnf) | (refine br.no ?_; conv => whnf))
    refine k3 0 _ _ ?_
    conv => whnf
    repeat (first | (refine br.yes ?_; conv => whnf) | (refine br.no ?_; conv => whnf))
    refine AW.cut ?_
    conv => whnf
    repeat (first | (refine br.yes ?_; conv => whnf) | (refine br.no ?_; conv => whnf))
    refine AW.mk ?_
    conv => whnf
    repeat (first | (refine br.yes ?_; conv => whnf) | (refine br.no ?_; conv => whnf))
    exact hK _ (most_all hI (by omega))
/-! the most frequent value by a sort -/
theorem add01 {rr : Nat} (h : rr = 0) : arI .add .i64 0 1 = ((rr + 1 : Nat) : Int) := by rw [h, arI_add, wrap_fits (by omega) (by omega)]; rfl
set_option maxRecDepth 20000 in
set_option maxHeartbeats 1600000 in
theorem c65 {i n c r : Nat} {ys : List Int} (hi : getE m i = some ⟨true, .ai n ys, r⟩) (hx : ys.length = n) (hm : belowM m.length m = true) (hn : n < 256)
    (hK : ∀ b, IsMost ys b → K (AV.int b) (setM m i ⟨true, .ai n (ys.mergeSort (fun x y => decide (x ≤ y))), r⟩)) : CallLeaf Try.prog w0 65 [.sl i [] 1 0 n c] m K := by
  refine fn_cut hmix h65 ?_
  conv => whnf
  repeat (first | (refine br.yes ?_; conv => whnf) | (refine br.no ?_; conv => whnf))
  refine AW.cut ?_
  conv => whnf
  repeat (first | (refine br.yes ?_; conv => whnf) | (refine br.no ?_; conv => whnf))
  refine AW.cut ?_
  conv => whnf
  repeat (first | (refine br.yes ?_; conv => whnf) | (refine br.no ?_; conv => whnf))
  refine c_Sort hi hx hm hn ?_
  have hs := sort_sorted ys
  have hp := sort_perm ys
  generalize ys.mergeSort (fun x y => decide (x ≤ y)) = zs at hs hp hK ⊢
  have hz : zs.length = n := by rw [hp.length_eq]; exact hx
  have hK : ∀ b, IsMost zs b → K (AV.int b) (setM m i ⟨true, .ai n zs, r⟩) := fun b hb => hK b (most_perm hp hb)
  have hi2 : getE (setM m i ⟨true, .ai n zs, r⟩) i = some ⟨true, .ai n zs, r⟩ := getE_set hi
  generalize setM m i ⟨true, .ai n zs, r⟩ = m2 at hi2 hK ⊢
  conv => whnf
  repeat (first | (refine br.yes ?_; conv => whnf) | (refine br.no ?_; conv => whnf))
  refine AW.cut ?_
  conv => whnf
  repeat (first | (refine br.yes ?_; conv => whnf) | (refine br.no ?_; conv => whnf))
  refine aw_assoc ?_
  refine AW.cut ?_
  conv => whnf
  repeat (first | (refine br.yes ?_; conv => whnf) | (refine br.no ?_; conv => whnf))
  refine aw_blk ?_
  refine aw_loop ?_
  refine loop_opq n (fun k ts M => ∃ (b : Int) (bq run : Nat), M = m2 ∧ RunTo zs k b bq run ∧ (k ≤ n ∧ run ≤ k ∧ bq ≤ k) ∧ ts = [.sl i [] 1 0 n c, .junk, .junk, AV.int b, AV.int bq, AV.int run, .junk, .junk, .junk, .junk, .sl i [] 1 0 n c, AV.int n, AV.int k, .junk, .junk, .junk, .junk, .junk, .junk, .junk, .junk, .junk, .junk, .junk, .junk, .junk, .junk, .junk, .junk, .junk, .junk, .junk, .junk, .junk, .junk, .junk, .junk]) _ _ ?hw trim_no ⟨0, 0, 0, rfl, .inl ⟨rfl, rfl, rfl⟩, by omega, rfl⟩ ?_
  case hw =>
    repeat (first | exact weak_nil | refine weak_same ?_ | refine weak_junk ?_)
  rintro k hk ts m' ⟨b, bq, run, hM, hI, hkn, rfl⟩ R hR KK k1 k2 k3
  subst m'
  have hcq : (zs.take k).count (zs.getD k 0) ≤ k := by
    have := List.count_le_length (a := zs.getD k 0) (l := zs.take k)
    rw [List.length_take] at this
    omega
  show AW _ _ _ _ _ _ _
  refine AW.cut ?_
  conv => whnf
  repeat (first | (refine br.yes ?_; conv => whnf) | (refine br.no ?_; conv => whnf))
  rw [lss_nat]
  refine AW.cut ?_
  conv => whnf
  repeat (first | (refine br.yes ?_; conv => whnf) | (refine br.no ?_; conv => whnf))
  refine br_intro (fun h1 => ?_) (fun h1 => ?_)
  · have h1' : k < n := by simpa using h1
    conv => whnf
    repeat (first | (refine br.yes ?_; conv => whnf) | (refine br.no ?_; conv => whnf))
    refine aw_blk ?_
    refine AW.cut ?_
    conv => whnf
    repeat (first | (refine br.yes ?_; conv => whnf) | (refine br.no ?_; conv => whnf))
    refine ⟨side_in ⟨by omega, by omega⟩, ?_⟩
    conv => whnf
    repeat (first | (refine br.yes ?_; conv => whnf) | (refine br.no ?_; conv => whnf))
    rw [hi2]
    conv => whnf
    repeat (first | (refine br.yes ?_; conv => whnf) | (refine br.no ?_; conv => whnf))
    refine ⟨side_in (at_lt (by omega)), ?_⟩
    rw [nth_at]
    conv => whnf
    repeat (first | (refine br.yes ?_; conv => whnf) | (refine br.no ?_; conv => whnf))
    refine aw_assoc ?_
    refine AW.cut ?_
    conv => whnf
    repeat (first | (refine br.yes ?_; conv => whnf) | (refine br.no ?_; conv => whnf))
    rw [eql_c (k := 0) (c := 0) rfl]
    refine br_intro (fun g1 => ?_) (fun g1 => ?_)
    · have g1' : k = 0 := by simpa using g1
      have hr0 : (zs.take k).count (zs.getD k 0) = 0 := by rw [g1']; rfl
      conv => whnf
      repeat (first | (refine br.yes ?_; conv => whnf) | (refine br.no ?_; conv => whnf))
      refine AW.cut ?_
      conv => whnf
      repeat (first | (refine br.yes ?_; conv => whnf) | (refine br.no ?_; conv => whnf))
      generalize hrr : (zs.take k).count (zs.getD k 0) = rr at hcq hr0 ⊢
      refine AW.cut ?_
      conv => whnf
      repeat (first | (refine br.yes ?_; conv => whnf) | (refine br.no ?_; conv => whnf))
      rw [add01 (rr := rr) (by omega)]
      refine AW.cut ?_
      conv => whnf
      repeat (first | (refine br.yes ?_; conv => whnf) | (refine br.no ?_; conv => whnf))
      rw [gtr_nat]
      refine AW.cond ?_
      conv => whnf
      repeat (first | (refine br.yes ?_; conv => whnf) | (refine br.no ?_; conv => whnf))
      refine br_intro (fun v1 => ?_) (fun v1 => ?_)
      · have v1' : bq < rr + 1 := by simpa using v1
        have hst := run_take hI (by omega) (by rw [hrr]; exact v1')
        rw [hrr] at hst
        refine AW.mk ?_
        conv => whnf
        repeat (first | (refine br.yes ?_; conv => whnf) | (refine br.no ?_; conv => whnf))
        refine AW.mk ?_
        conv => whnf
        repeat (first | (refine br.yes ?_; conv => whnf) | (refine br.no ?_; conv => whnf))
        rw [add_one (by omega)]
        refine k1 _ _ (hR (by omega) _ _ _ _ ?hwtA trim_no ⟨_, _, _, rfl, hst, by omega, rfl⟩)
        case hwtA =>
          repeat (first | exact weak_nil | refine weak_same ?_ | refine weak_junk ?_)
      · have v1' : ¬ bq < rr + 1 := by simpa using v1
        have hst := run_keep hs hI (by omega) (by rw [hrr]; exact v1')
        rw [hrr] at hst
        refine AW.mk ?_
        conv => whnf
        repeat (first | (refine br.yes ?_; conv => whnf) | (refine br.no ?_; conv => whnf))
        refine AW.mk ?_
        conv => whnf
        repeat (first | (refine br.yes ?_; conv => whnf) | (refine br.no ?_; conv => whnf))
        rw [add_one (by omega)]
        refine k1 _ _ (hR (by omega) _ _ _ _ ?hwkA trim_no ⟨_, _, _, rfl, hst, by omega, rfl⟩)
        case hwkA =>
          repeat (first | exact weak_nil | refine weak_same ?_ | refine weak_junk ?_)
    · have g1' : ¬ k = 0 := by simpa using g1
      conv => whnf
      repeat (first | (refine br.yes ?_; conv => whnf) | (refine br.no ?_; conv => whnf))
      rw [sub_one (by omega) (by omega)]
      refine ⟨side_in ⟨by omega, by omega⟩, ?_⟩
      conv => whnf
      repeat (first | (refine br.yes ?_; conv => whnf) | (refine br.no ?_; conv => whnf))
      rw [hi2]
      conv => whnf
      repeat (first | (refine br.yes ?_; conv => whnf) | (refine br.no ?_; conv => whnf))
      refine ⟨side_in (at_lt (by omega)), ?_⟩
      rw [nth_at]
      conv => whnf
      repeat (first | (refine br.yes ?_; conv => whnf) | (refine br.no ?_; conv => whnf))
      refine AW.cut ?_
      conv => whnf
      repeat (first | (refine br.yes ?_; conv => whnf) | (refine br.no ?_; conv => whnf))
      refine br_intro (fun g2 => ?_) (fun g2 => ?_)
      · have g2' : zs.getD k 0 ≠ zs.getD (k - 1) 0 := by rw [cmI_neq] at g2; simpa using g2
        have hr0 := run_new hs (by omega) (by omega) g2'
        conv => whnf
        repeat (first | (refine br.yes ?_; conv => whnf) | (refine br.no ?_; conv => whnf))
        generalize hrr : (zs.take k).count (zs.getD k 0) = rr at hcq hr0 ⊢
        refine AW.cut ?_
        conv => whnf
        repeat (first | (refine br.yes ?_; conv => whnf) | (refine br.no ?_; conv => whnf))
        rw [add01 (rr := rr) (by omega)]
        refine AW.cut ?_
        conv => whnf
        repeat (first | (refine br.yes ?_; conv => whnf) | (refine br.no ?_; conv => whnf))
        rw [gtr_nat]
        refine AW.cond ?_
        conv => whnf
        repeat (first | (refine br.yes ?_; conv => whnf) | (refine br.no ?_; conv => whnf))
        refine br_intro (fun v1 => ?_) (fun v1 => ?_)
        · have v1' : bq < rr + 1 := by simpa using v1
          have hst := run_take hI (by omega) (by rw [hrr]; exact v1')
          rw [hrr] at hst
          refine AW.mk ?_
          conv => whnf
          repeat (first | (refine br.yes ?_; conv => whnf) | (refine br.no ?_; conv => whnf))
          refine AW.mk ?_
          conv => whnf
          repeat (first | (refine br.yes ?_; conv => whnf) | (refine br.no ?_; conv => whnf))
          rw [add_one (by omega)]
          refine k1 _ _ (hR (by omega) _ _ _ _ ?hwtB trim_no ⟨_, _, _, rfl, hst, by omega, rfl⟩)
          case hwtB =>
            repeat (first | exact weak_nil | refine weak_same ?_ | refine weak_junk ?_)
        · have v1' : ¬ bq < rr + 1 := by simpa using v1
          have hst := run_keep hs hI (by omega) (by rw [hrr]; exact v1')
          rw [hrr] at hst
          refine AW.mk ?_
          conv => whnf
          repeat (first | (refine br.yes ?_; conv => whnf) | (refine br.no ?_; conv => whnf))
          refine AW.mk ?_
          conv => whnf
          repeat (first | (refine br.yes ?_; conv => whnf) | (refine br.no ?_; conv => whnf))
          rw [add_one (by omega)]
          refine k1 _ _ (hR (by omega) _ _ _ _ ?hwkB trim_no ⟨_, _, _, rfl, hst, by omega, rfl⟩)
          case hwkB =>
            repeat (first | exact weak_nil | refine weak_same ?_ | refine weak_junk ?_)
      · have g2' : zs.getD k 0 = zs.getD (k - 1) 0 := by rw [cmI_neq] at g2; simpa using g2
        have hr0 := run_same hI (by omega) g2'
        subst hr0
        conv => whnf
        repeat (first | (refine br.yes ?_; conv => whnf) | (refine br.no ?_; conv => whnf))
        generalize hrr : (zs.take k).count (zs.getD k 0) = rr at hcq ⊢
        refine AW.cut ?_
        conv => whnf
        repeat (first | (refine br.yes ?_; conv => whnf) | (refine br.no ?_; conv => whnf))
        rw [add_one (by omega)]
        refine AW.cut ?_
        conv => whnf
        repeat (first | (refine br.yes ?_; conv => whnf) | (refine br.no ?_; conv => whnf))
        rw [gtr_nat]
        refine AW.cond ?_
        conv => whnf
        repeat (first | (refine br.yes ?_; conv => whnf) | (refine br.no ?_; conv => whnf))
        refine br_intro (fun v1 => ?_) (fun v1 => ?_)
        · have v1' : bq < rr + 1 := by simpa using v1
          have hst := run_take hI (by omega) (by rw [hrr]; exact v1')
          rw [hrr] at hst
          refine AW.mk ?_
          conv => whnf
          repeat (first | (refine br.yes ?_; conv => whnf) | (refine br.no ?_; conv => whnf))
          refine AW.mk ?_
          conv => whnf
          repeat (first | (refine br.yes ?_; conv => whnf) | (refine br.no ?_; conv => whnf))
          rw [add_one (by omega)]
          refine k1 _ _ (hR (by omega) _ _ _ _ ?hwtC trim_no ⟨_, _, _, rfl, hst, by omega, rfl⟩)
          case hwtC =>
            repeat (first | exact weak_nil | refine weak_same ?_ | refine weak_junk ?_)
        · have v1' : ¬ bq < rr + 1 := by simpa using v1
          have hst := run_keep hs hI (by omega) (by rw [hrr]; exact v1')
          rw [hrr] at hst
          refine AW.mk ?_
          conv => whnf
          repeat (first | (refine br.yes ?_; conv => whnf) | (refine br.no ?_; conv => whnf))
          refine AW.mk ?_
          conv => whnf
          repeat (first | (refine br.yes ?_; conv => whnf) | (refine br.no ?_; conv => whnf))
          rw [add_one (by omega)]
          refine k1 _ _ (hR (by omega) _ _ _ _ ?hwkC trim_no ⟨_, _, _, rfl, hst, by omega, rfl⟩)
          case hwkC =>
            repeat (first | exact weak_nil | refine weak_same ?_ | refine weak_junk ?_)
  · have h1' : k = n := by simp at h1; omega
    conv => whnf
    repeat (first | (refine br.yes ?_; conv => whnf) | (refine br.no ?_; conv => whnf))
    refine k3 0 _ _ ?_
    conv => whnf
    repeat (first | (refine br.yes ?_; conv => whnf) | (refine br.no ?_; conv => whnf))
    refine AW.cut ?_
    conv => whnf
    repeat (first | (refine br.yes ?_; conv => whnf) | (refine br.no ?_; conv => whnf))
    refine AW.mk ?_
    conv => whnf
    repeat (first | (refine br.yes ?_; conv => whnf) | (refine br.no ?_; conv => whnf))
    exact hK _ (run_all hI (by omega))
/-! the slopes of a map of heights -/
def subAt (xs : List Int) (j k : Nat) : Int := arI .sub .i64 (xs.getD j 0) (xs.getD k 0)
def rowsTo (xs : List Int) (M : Nat) : Nat → List Int
  | 0 => []
  | k + 1 => if k % M < M - 1 then rowsTo xs M k ++ [subAt xs (k + 1) k] else rowsTo xs M k
def colsTo (xs : List Int) (M : Nat) : Nat → List Int
  | 0 => []
  | k + 1 => if k / M < M - 1 then colsTo xs M k ++ [subAt xs (k + M) k] else colsTo xs M k
theorem rowsTo_le (xs : List Int) (M : Nat) : ∀ k, (rowsTo xs M k).length ≤ k
  | 0 => Nat.le_refl _
  | k + 1 => by
    have := rowsTo_le xs M k
    unfold rowsTo
    split
    · simp; omega
    · omega
theorem colsTo_le (xs : List Int) (M : Nat) : ∀ k, (colsTo xs M k).length ≤ k
  | 0 => Nat.le_refl _
  | k + 1 => by
    have := colsTo_le xs M k
    unfold colsTo
    split
    · simp; omega
    · omega
theorem rows_yes {xs : List Int} {M k : Nat} (h : k % M < M - 1) : rowsTo xs M (k + 1) = rowsTo xs M k ++ [subAt xs (k + 1) k] := by rw [rowsTo, if_pos h]
theorem rows_no {xs : List Int} {M k : Nat} (h : ¬ k % M < M - 1) : rowsTo xs M (k + 1) = rowsTo xs M k := by rw [rowsTo, if_neg h]
theorem cols_yes {xs : List Int} {M k : Nat} (h : k / M < M - 1) : colsTo xs M (k + 1) = colsTo xs M k ++ [subAt xs (k + M) k] := by rw [colsTo, if_pos h]
theorem cols_no {xs : List Int} {M k : Nat} (h : ¬ k / M < M - 1) : colsTo xs M (k + 1) = colsTo xs M k := by rw [colsTo, if_neg h]
theorem quo_nat {a b : Nat} (ha : a ≤ 1000000) : arI .quo .i64 (a : Int) (b : Int) = ((a / b : Nat) : Int) := by
  have h2 : a / b ≤ a := Nat.div_le_self a b
  rw [arI_quo, ← Int.ofNat_tdiv]
  generalize a / b = q at h2
  exact wrap_fits (by omega) (by omega)
theorem row_in {M k : Nat} (hk : k < M * M) (h : k % M < M - 1) : k + 1 < M * M := by
  have h1 : M * (k / M) + k % M = k := Nat.div_add_mod k M
  have h2 : k / M < M := Nat.div_lt_of_lt_mul hk
  generalize k / M = q at h1 h2
  generalize k % M = t at h1 h
  have h3 : M * (q + 1) ≤ M * M := Nat.mul_le_mul_left M h2
  rw [Nat.mul_add] at h3
  omega
theorem col_in {M k : Nat} (h : k / M < M - 1) : k + M < M * M := by
  have h0 : 0 < M := by
    rcases Nat.eq_zero_or_pos M with h0 | h0
    · subst h0; simp at h
    · exact h0
  have h1 : M * (k / M) + k % M = k := Nat.div_add_mod k M
  have h4 : k % M < M := Nat.mod_lt _ h0
  generalize k / M = q at h1 h
  generalize k % M = t at h1 h4
  have h3 : M * (q + 2) ≤ M * M := Nat.mul_le_mul_left M (by omega)
  rw [Nat.mul_add] at h3
  omega
theorem rem_nat (a b : Nat) : arI .rem .i64 (a : Int) (b : Int) = ((a % b : Nat) : Int) := by rw [arI_rem]; exact (Int.ofNat_tmod a b).symm
def rowsOf (N : Int) (xs : List Int) : List Int := rowsTo xs N.toNat (N.toNat * N.toNat)
def colsOf (N : Int) (xs : List Int) : List Int := colsTo xs N.toNat (N.toNat * N.toNat)
theorem c38_bad {N : Int} {i n c r : Nat} {o : Bool} {xs : List Int} (hi : getE m i = some ⟨o, .ai n xs, r⟩) (hx : xs.length = n) (hn : n ≤ 1048576) (hno : isMap N xs = false)
    (hK : K (.tup [nilS 1, AV.int 1]) m) : CallLeaf Try.prog w0 38 [AV.int N, .sl i [] 1 0 n c] m K := by
  refine fn_go hmix h38 ?_
  conv => whnf
  repeat (first | (refine br.yes ?_; conv => whnf) | (refine br.no ?_; conv => whnf))
  refine c49 hi hx (by omega) ?_
  conv => whnf
  repeat (first | (refine br.yes ?_; conv => whnf) | (refine br.no ?_; conv => whnf))
  refine br_true (by rw [notB_eq, hno]; rfl) ?_
  conv => whnf
  repeat (first | (refine br.yes ?_; conv => whnf) | (refine br.no ?_; conv => whnf))
  exact hK
theorem c39_bad {N : Int} {i n c r : Nat} {o : Bool} {xs : List Int} (hi : getE m i = some ⟨o, .ai n xs, r⟩) (hx : xs.length = n) (hn : n ≤ 1048576) (hno : isMap N xs = false)
    (hK : K (.tup [nilS 1, AV.int 1]) m) : CallLeaf Try.prog w0 39 [AV.int N, .sl i [] 1 0 n c] m K := by
  refine fn_go hmix h39 ?_
  conv => whnf
  repeat (first | (refine br.yes ?_; conv => whnf) | (refine br.no ?_; conv => whnf))
  refine c19 hi hx (by omega) ?_
  conv => whnf
  repeat (first | (refine br.yes ?_; conv => whnf) | (refine br.no ?_; conv => whnf))
  refine br_true (by rw [notB_eq, hno]; rfl) ?_
  conv => whnf
  repeat (first | (refine br.yes ?_; conv => whnf) | (refine br.no ?_; conv => whnf))
  exact hK
theorem rows_len {xs : List Int} {M k : Nat} (h : k % M < M - 1) : addN (rowsTo xs M k).length 1 = (rowsTo xs M (k + 1)).length := by rw [addN_eq, rows_yes h]; simp
theorem cols_len {xs : List Int} {M k : Nat} (h : k / M < M - 1) : addN (colsTo xs M k).length 1 = (colsTo xs M (k + 1)).length := by rw [addN_eq, cols_yes h]; simp
set_option maxRecDepth 20000 in
set_option maxHeartbeats 1600000 in
theorem c38_v {N : Int} {n c : Nat} {xs : List Int} (hx : xs.length = n) (hn : n ≤ 1048576) (hok : isMap N xs = true)
    (hK : ∀ (a b : Int) (cap1 cap2 : Nat), IsMost (rowsOf N xs) a → IsMost (colsOf N xs) b → K (.tup [.sl 3 [] 1 0 2 2, AV.int 0]) [⟨false, .ai n xs, 0⟩, ⟨true, .ai (rowsOf N xs).length (rowsOf N xs), cap1 * 1⟩, ⟨true, .ai (colsOf N xs).length (colsOf N xs), cap2 * 1⟩, ⟨true, .ai 2 [a, b], 2⟩]) : CallLeaf Try.prog w0 38 [AV.int N, .sl 0 [] 1 0 n c] [⟨false, .ai n xs, 0⟩] K := by
  obtain ⟨M, rfl, h8, h0, hl⟩ := map_square hok
  have hMM : M * M ≤ 8 * 8 := Nat.mul_le_mul h8 h8
  unfold rowsOf colsOf at hK
  simp only [Int.toNat_natCast] at hK
  refine fn_cut hmix h38 ?_
  conv => whnf
  repeat (first | (refine br.yes ?_; conv => whnf) | (refine br.no ?_; conv => whnf))
  refine AW.cut ?_
  conv => whnf
  repeat (first | (refine br.yes ?_; conv => whnf) | (refine br.no ?_; conv => whnf))
  refine aw_assoc ?_
  refine AW.cut ?_
  conv => whnf
  repeat (first | (refine br.yes ?_; conv => whnf) | (refine br.no ?_; conv => whnf))
  refine c49 (i := 0) rfl hx (by omega) ?_
  conv => whnf
  repeat (first | (refine br.yes ?_; conv => whnf) | (refine br.no ?_; conv => whnf))
  refine AW.cut ?_
  conv => whnf
  repeat (first | (refine br.yes ?_; conv => whnf) | (refine br.no ?_; conv => whnf))
  refine br_false (by rw [notB_eq, hok]; rfl) ?_
  conv => whnf
  repeat (first | (refine br.yes ?_; conv => whnf) | (refine br.no ?_; conv => whnf))
  refine AW.cut ?_
  conv => whnf
  repeat (first | (refine br.yes ?_; conv => whnf) | (refine br.no ?_; conv => whnf))
  refine aw_assoc ?_
  refine AW.cut ?_
  conv => whnf
  repeat (first | (refine br.yes ?_; conv => whnf) | (refine br.no ?_; conv => whnf))
  refine aw_blk ?_
  refine aw_loop ?_
  refine loop_opq (M * M) (fun k ts m => ∃ cap1 cap2, m = [⟨false, .ai n xs, 0⟩, ⟨true, .ai (rowsTo xs M k).length (rowsTo xs M k), cap1 * 1⟩, ⟨true, .ai (colsTo xs M k).length (colsTo xs M k), cap2 * 1⟩] ∧ ts = [AV.int (M : Int), .sl 0 [] 1 0 n c, .junk, .junk, nilS 1, AV.int 0, .sl 1 [] 1 0 (rowsTo xs M k).length cap1, .sl 2 [] 1 0 (colsTo xs M k).length cap2, AV.int k, .junk, .junk, .junk, .junk, .junk, .junk, .junk, .junk, .junk, .junk, .junk, .junk, .junk, .junk, .junk, .junk, .junk, .junk, .junk, .junk, .junk, .junk, .junk, .junk, .junk, .junk, .junk, .junk, .junk, .junk, .junk, .junk, .junk, .junk, .junk, .junk, .junk, .junk, .junk, .junk, .junk, .junk, .junk, .junk, .junk, .junk, .junk, .junk, .junk, .junk, .junk, .junk, .junk, .junk, .junk, .junk, .junk]) _ _ ?hw trim_no ⟨0, 0, rfl, rfl⟩ ?_
  case hw =>
    repeat (first | exact weak_nil | refine weak_same ?_ | refine weak_junk ?_)
  rintro k hk ts m ⟨cap1, cap2, rfl, rfl⟩ R hR KK k1 k2 k3
  show AW _ _ _ _ _ _ _
  have hrl := rowsTo_le xs M k
  have hcl := colsTo_le xs M k
  refine aw_assoc ?_
  refine AW.cut ?_
  conv => whnf
  repeat (first | (refine br.yes ?_; conv => whnf) | (refine br.no ?_; conv => whnf))
  rw [mul_nat (by omega) (by omega)]
  rw [lss_nat]
  refine AW.cut ?_
  conv => whnf
  repeat (first | (refine br.yes ?_; conv => whnf) | (refine br.no ?_; conv => whnf))
  refine br_intro (fun h1 => ?_) (fun h1 => ?_)
  · have hk1 : k < M * M := by simpa using h1
    conv => whnf
    repeat (first | (refine br.yes ?_; conv => whnf) | (refine br.no ?_; conv => whnf))
    refine aw_blk ?_
    refine aw_assoc ?_
    refine AW.cut ?_
    conv => whnf
    repeat (first | (refine br.yes ?_; conv => whnf) | (refine br.no ?_; conv => whnf))
    refine ⟨side_in (by omega), ?_⟩
    conv => whnf
    repeat (first | (refine br.yes ?_; conv => whnf) | (refine br.no ?_; conv => whnf))
    rw [rem_nat, sub_one (by omega) (by omega), lss_nat]
    refine AW.cut ?_
    conv => whnf
    repeat (first | (refine br.yes ?_; conv => whnf) | (refine br.no ?_; conv => whnf))
    refine br_intro (fun g1 => ?_) (fun g1 => ?_)
    · have g1' : k % M < M - 1 := by simpa using g1
      have hin := row_in hk1 g1'
      conv => whnf
      repeat (first | (refine br.yes ?_; conv => whnf) | (refine br.no ?_; conv => whnf))
      rw [add_one (by omega)]
      refine ⟨side_in ⟨by omega, by omega⟩, ?_⟩
      conv => whnf
      repeat (first | (refine br.yes ?_; conv => whnf) | (refine br.no ?_; conv => whnf))
      refine ⟨side_in (at_lt (by omega)), ?_⟩
      rw [nth_at]
      conv => whnf
      repeat (first | (refine br.yes ?_; conv => whnf) | (refine br.no ?_; conv => whnf))
      refine ⟨side_in ⟨by omega, by omega⟩, ?_⟩
      conv => whnf
      repeat (first | (refine br.yes ?_; conv => whnf) | (refine br.no ?_; conv => whnf))
      refine ⟨side_in (at_lt (by omega)), ?_⟩
      rw [nth_at]
      conv => whnf
      repeat (first | (refine br.yes ?_; conv => whnf) | (refine br.no ?_; conv => whnf))
      refine ⟨⟨_, rfl⟩, ?_⟩
      conv => whnf
      repeat (first | (refine br.yes ?_; conv => whnf) | (refine br.no ?_; conv => whnf))
      refine ⟨side_in ⟨by decide, rfl, rfl, by omega, rfl⟩, fun cap' => ?_⟩
      conv => whnf
      repeat (first | (refine br.yes ?_; conv => whnf) | (refine br.no ?_; conv => whnf))
      rw [rows_len g1', show rowsTo xs M k ++ [arI .sub .i64 (xs.getD (k + 1) 0) (xs.getD k 0)] = rowsTo xs M (k + 1) from (rows_yes g1').symm]
      conv => whnf
      repeat (first | (refine br.yes ?_; conv => whnf) | (refine br.no ?_; conv => whnf))
      refine AW.cut ?_
      conv => whnf
      repeat (first | (refine br.yes ?_; conv => whnf) | (refine br.no ?_; conv => whnf))
      refine ⟨side_in (by omega), ?_⟩
      conv => whnf
      repeat (first | (refine br.yes ?_; conv => whnf) | (refine br.no ?_; conv => whnf))
      rw [quo_nat (by omega), sub_one (by omega) (by omega), lss_nat]
      refine AW.cond ?_
      conv => whnf
      repeat (first | (refine br.yes ?_; conv => whnf) | (refine br.no ?_; conv => whnf))
      refine br_intro (fun g2 => ?_) (fun g2 => ?_)
      · have g2' : k / M < M - 1 := by simpa using g2
        have hin2 := col_in g2'
        refine AW.mk ?_
        conv => whnf
        repeat (first | (refine br.yes ?_; conv => whnf) | (refine br.no ?_; conv => whnf))
        rw [show arI .add .i64 ((k : Nat) : Int) ((M : Nat) : Int) = ((k + M : Nat) : Int) from add_nat (by omega) (by omega)]
        refine ⟨side_in ⟨by omega, by omega⟩, ?_⟩
        conv => whnf
        repeat (first | (refine br.yes ?_; conv => whnf) | (refine br.no ?_; conv => whnf))
        refine ⟨side_in (at_lt (by omega)), ?_⟩
        rw [nth_at]
        conv => whnf
        repeat (first | (refine br.yes ?_; conv => whnf) | (refine br.no ?_; conv => whnf))
        refine ⟨side_in ⟨by omega, by omega⟩, ?_⟩
        conv => whnf
        repeat (first | (refine br.yes ?_; conv => whnf) | (refine br.no ?_; conv => whnf))
        refine ⟨side_in (at_lt (by omega)), ?_⟩
        rw [nth_at]
        conv => whnf
        repeat (first | (refine br.yes ?_; conv => whnf) | (refine br.no ?_; conv => whnf))
        refine ⟨⟨_, rfl⟩, ?_⟩
        conv => whnf
        repeat (first | (refine br.yes ?_; conv => whnf) | (refine br.no ?_; conv => whnf))
        refine ⟨side_in ⟨by decide, rfl, rfl, by omega, rfl⟩, fun cap2' => ?_⟩
        conv => whnf
        repeat (first | (refine br.yes ?_; conv => whnf) | (refine br.no ?_; conv => whnf))
        rw [cols_len g2', show colsTo xs M k ++ [arI .sub .i64 (xs.getD (k + M) 0) (xs.getD k 0)] = colsTo xs M (k + 1) from (cols_yes g2').symm]
        conv => whnf
        repeat (first | (refine br.yes ?_; conv => whnf) | (refine br.no ?_; conv => whnf))
        refine AW.mk ?_
        conv => whnf
        repeat (first | (refine br.yes ?_; conv => whnf) | (refine br.no ?_; conv => whnf))
        rw [add_one (by omega)]
        refine k1 _ _ (hR hk1 _ _ _ [⟨false, .ai n xs, 0⟩, ⟨true, .ai (rowsTo xs M (k + 1)).length (rowsTo xs M (k + 1)), cap' * 1⟩, ⟨true, .ai (colsTo xs M (k + 1)).length (colsTo xs M (k + 1)), cap2' * 1⟩] ?hwfAa ?trfAa ⟨_, _, rfl, rfl⟩)
        case hwfAa =>
          repeat (first | exact weak_nil | refine weak_same ?_ | refine weak_junk ?_)
        case trfAa =>
          exact .inr ⟨3, by simp, rfl, rfl, rfl⟩
      · have g2' : ¬ k / M < M - 1 := by simpa using g2
        rw [← cols_no (xs := xs) g2']
        refine AW.mk ?_
        conv => whnf
        repeat (first | (refine br.yes ?_; conv => whnf) | (refine br.no ?_; conv => whnf))
        conv => whnf
        repeat (first | (refine br.yes ?_; conv => whnf) | (refine br.no ?_; conv => whnf))
        refine AW.mk ?_
        conv => whnf
        repeat (first | (refine br.yes ?_; conv => whnf) | (refine br.no ?_; conv => whnf))
        rw [add_one (by omega)]
        refine k1 _ _ (hR hk1 _ _ _ [⟨false, .ai n xs, 0⟩, ⟨true, .ai (rowsTo xs M (k + 1)).length (rowsTo xs M (k + 1)), cap' * 1⟩, ⟨true, .ai (colsTo xs M (k + 1)).length (colsTo xs M (k + 1)), cap2 * 1⟩] ?hwfAb ?trfAb ⟨_, _, rfl, rfl⟩)
        case hwfAb =>
          repeat (first | exact weak_nil | refine weak_same ?_ | refine weak_junk ?_)
        case trfAb =>
          exact .inr ⟨3, by simp, rfl, rfl, rfl⟩
    · have g1' : ¬ k % M < M - 1 := by simpa using g1
      rw [← rows_no (xs := xs) g1']
      conv => whnf
      repeat (first | (refine br.yes ?_; conv => whnf) | (refine br.no ?_; conv => whnf))
      refine AW.cut ?_
      conv => whnf
      repeat (first | (refine br.yes ?_; conv => whnf) | (refine br.no ?_; conv => whnf))
      refine ⟨side_in (by omega), ?_⟩
      conv => whnf
      repeat (first | (refine br.yes ?_; conv => whnf) | (refine br.no ?_; conv => whnf))
      rw [quo_nat (by omega), sub_one (by omega) (by omega), lss_nat]
      refine AW.cond ?_
      conv => whnf
      repeat (first | (refine br.yes ?_; conv => whnf) | (refine br.no ?_; conv => whnf))
      refine br_intro (fun g2 => ?_) (fun g2 => ?_)
      · have g2' : k / M < M - 1 := by simpa using g2
        have hin2 := col_in g2'
        refine AW.mk ?_
        conv => whnf
        repeat (first | (refine br.yes ?_; conv => whnf) | (refine br.no ?_; conv => whnf))
        rw [show arI .add .i64 ((k : Nat) : Int) ((M : Nat) : Int) = ((k + M : Nat) : Int) from add_nat (by omega) (by omega)]
        refine ⟨side_in ⟨by omega, by omega⟩, ?_⟩
        conv => whnf
        repeat (first | (refine br.yes ?_; conv => whnf) | (refine br.no ?_; conv => whnf))
        refine ⟨side_in (at_lt (by omega)), ?_⟩
        rw [nth_at]
        conv => whnf
        repeat (first | (refine br.yes ?_; conv => whnf) | (refine br.no ?_; conv => whnf))
        refine ⟨side_in ⟨by omega, by omega⟩, ?_⟩
        conv => whnf
        repeat (first | (refine br.yes ?_; conv => whnf) | (refine br.no ?_; conv => whnf))
        refine ⟨side_in (at_lt (by omega)), ?_⟩
        rw [nth_at]
        conv => whnf
        repeat (first | (refine br.yes ?_; conv => whnf) | (refine br.no ?_; conv => whnf))
        refine ⟨⟨_, rfl⟩, ?_⟩
        conv => whnf
        repeat (first | (refine br.yes ?_; conv => whnf) | (refine br.no ?_; conv => whnf))
        refine ⟨side_in ⟨by decide, rfl, rfl, by omega, rfl⟩, fun cap2' => ?_⟩
        conv => whnf
        repeat (first | (refine br.yes ?_; conv => whnf) | (refine br.no ?_; conv => whnf))
        rw [cols_len g2', show colsTo xs M k ++ [arI .sub .i64 (xs.getD (k + M) 0) (xs.getD k 0)] = colsTo xs M (k + 1) from (cols_yes g2').symm]
        conv => whnf
        repeat (first | (refine br.yes ?_; conv => whnf) | (refine br.no ?_; conv => whnf))
        refine AW.mk ?_
        conv => whnf
        repeat (first | (refine br.yes ?_; conv => whnf) | (refine br.no ?_; conv => whnf))
        rw [add_one (by omega)]
        refine k1 _ _ (hR hk1 _ _ _ [⟨false, .ai n xs, 0⟩, ⟨true, .ai (rowsTo xs M (k + 1)).length (rowsTo xs M (k + 1)), cap1 * 1⟩, ⟨true, .ai (colsTo xs M (k + 1)).length (colsTo xs M (k + 1)), cap2' * 1⟩] ?hwfBa ?trfBa ⟨_, _, rfl, rfl⟩)
        case hwfBa =>
          repeat (first | exact weak_nil | refine weak_same ?_ | refine weak_junk ?_)
        case trfBa =>
          exact .inr ⟨3, by simp, rfl, rfl, rfl⟩
      · have g2' : ¬ k / M < M - 1 := by simpa using g2
        rw [← cols_no (xs := xs) g2']
        refine AW.mk ?_
        conv => whnf
        repeat (first | (refine br.yes ?_; conv => whnf) | (refine br.no ?_; conv => whnf))
        conv => whnf
        repeat (first | (refine br.yes ?_; conv => whnf) | (refine br.no ?_; conv => whnf))
        refine AW.mk ?_
        conv => whnf
        repeat (first | (refine br.yes ?_; conv => whnf) | (refine br.no ?_; conv => whnf))
        rw [add_one (by omega)]
        refine k1 _ _ (hR hk1 _ _ _ [⟨false, .ai n xs, 0⟩, ⟨true, .ai (rowsTo xs M (k + 1)).length (rowsTo xs M (k + 1)), cap1 * 1⟩, ⟨true, .ai (colsTo xs M (k + 1)).length (colsTo xs M (k + 1)), cap2 * 1⟩] ?hwfBb ?trfBb ⟨_, _, rfl, rfl⟩)
        case hwfBb =>
          repeat (first | exact weak_nil | refine weak_same ?_ | refine weak_junk ?_)
        case trfBb =>
          exact .inr ⟨3, by simp, rfl, rfl, rfl⟩
  · have hk2 : k = M * M := by simp at h1; omega
    subst hk2
    conv => whnf
    repeat (first | (refine br.yes ?_; conv => whnf) | (refine br.no ?_; conv => whnf))
    refine k3 0 _ _ ?_
    conv => whnf
    repeat (first | (refine br.yes ?_; conv => whnf) | (refine br.no ?_; conv => whnf))
    refine AW.cut ?_
    conv => whnf
    repeat (first | (refine br.yes ?_; conv => whnf) | (refine br.no ?_; conv => whnf))
    refine c64 (i := 1) rfl rfl (by omega) (fun a ha => ?_)
    conv => whnf
    repeat (first | (refine br.yes ?_; conv => whnf) | (refine br.no ?_; conv => whnf))
    refine c64 (i := 2) rfl rfl (by omega) (fun b hb => ?_)
    conv => whnf
    repeat (first | (refine br.yes ?_; conv => whnf) | (refine br.no ?_; conv => whnf))
    refine AW.mk ?_
    conv => whnf
    repeat (first | (refine br.yes ?_; conv => whnf) | (refine br.no ?_; conv => whnf))
    exact hK a b cap1 cap2 ha hb
/-! the slopes of a map of heights, by the program -/
theorem set_1 {a b c e : Ent} : setM [a, b, c] 1 e = [a, e, c] := by unfold setM; rfl
theorem set_2 {a b c e : Ent} : setM [a, b, c] 2 e = [a, b, e] := by unfold setM; rfl
def srt (ys : List Int) : List Int := ys.mergeSort (fun x y => decide (x ≤ y))
set_option maxRecDepth 20000 in
set_option maxHeartbeats 1600000 in
theorem c39_v {N : Int} {n c : Nat} {xs : List Int} (hx : xs.length = n) (hn : n ≤ 1048576) (hok : isMap N xs = true)
    (hK : ∀ (a b : Int) (cap1 cap2 : Nat), IsMost (rowsOf N xs) a → IsMost (colsOf N xs) b → K (.tup [.sl 3 [] 1 0 2 2, AV.int 0]) [⟨false, .ai n xs, 0⟩, ⟨true, .ai (rowsOf N xs).length (srt (rowsOf N xs)), cap1 * 1⟩, ⟨true, .ai (colsOf N xs).length (srt (colsOf N xs)), cap2 * 1⟩, ⟨true, .ai 2 [a, b], 2⟩]) : CallLeaf Try.prog w0 39 [AV.int N, .sl 0 [] 1 0 n c] [⟨false, .ai n xs, 0⟩] K := by
  obtain ⟨M, rfl, h8, h0, hl⟩ := map_square hok
  have hMM : M * M ≤ 8 * 8 := Nat.mul_le_mul h8 h8
  unfold rowsOf colsOf at hK
  simp only [Int.toNat_natCast] at hK
  refine fn_cut hmix h39 ?_
  conv => whnf
  repeat (first | (refine br.yes ?_; conv => whnf) | (refine br.no ?_; conv => whnf))
  refine AW.cut ?_
  conv => whnf
  repeat (first | (refine br.yes ?_; conv => whnf) | (refine br.no ?_; conv => whnf))
  refine aw_assoc ?_
  refine AW.cut ?_
  conv => whnf
  repeat (first | (refine br.yes ?_; conv => whnf) | (refine br.no ?_; conv => whnf))
  refine c19 (i := 0) rfl hx (by omega) ?_
  conv => whnf
  repeat (first | (refine br.yes ?_; conv => whnf) | (refine br.no ?_; conv => whnf))
  refine AW.cut ?_
  conv => whnf
  repeat (first | (refine br.yes ?_; conv => whnf) | (refine br.no ?_; conv => whnf))
  refine br_false (by rw [notB_eq, hok]; rfl) ?_
  conv => whnf
  repeat (first | (refine br.yes ?_; conv => whnf) | (refine br.no ?_; conv => whnf))
  refine AW.cut ?_
  conv => whnf
  repeat (first | (refine br.yes ?_; conv => whnf) | (refine br.no ?_; conv => whnf))
  refine aw_assoc ?_
  refine AW.cut ?_
  conv => whnf
  repeat (first | (refine br.yes ?_; conv => whnf) | (refine br.no ?_; conv => whnf))
  refine aw_blk ?_
  refine aw_loop ?_
  refine loop_opq n (fun k ts m => ∃ cap1 cap2, m = [⟨false, .ai n xs, 0⟩, ⟨true, .ai (rowsTo xs M k).length (rowsTo xs M k), cap1 * 1⟩, ⟨true, .ai (colsTo xs M k).length (colsTo xs M k), cap2 * 1⟩] ∧ ts = [AV.int (M : Int), .sl 0 [] 1 0 n c, .junk, .junk, nilS 1, AV.int 0, .sl 1 [] 1 0 (rowsTo xs M k).length cap1, .sl 2 [] 1 0 (colsTo xs M k).length cap2, .junk, .junk, .junk, .junk, .junk, .junk, .junk, .junk, .sl 0 [] 1 0 n c, AV.int n, AV.int k, .junk, .junk, .junk, .junk, .junk, .junk, .junk, .junk, .junk, .junk, .junk, .junk, .junk, .junk, .junk, .junk, .junk, .junk, .junk, .junk, .junk, .junk, .junk, .junk, .junk, .junk, .junk, .junk, .junk, .junk, .junk, .junk, .junk, .junk, .junk, .junk, .junk, .junk, .junk, .junk, .junk, .junk, .junk]) _ _ ?hw trim_no ⟨0, 0, rfl, rfl⟩ ?_
  case hw =>
    repeat (first | exact weak_nil | refine weak_same ?_ | refine weak_junk ?_)
  rintro k hk ts m ⟨cap1, cap2, rfl, rfl⟩ R hR KK k1 k2 k3
  show AW _ _ _ _ _ _ _
  have hrl := rowsTo_le xs M k
  have hcl := colsTo_le xs M k
  refine AW.cut ?_
  conv => whnf
  repeat (first | (refine br.yes ?_; conv => whnf) | (refine br.no ?_; conv => whnf))
  rw [lss_nat]
  refine AW.cut ?_
  conv => whnf
  repeat (first | (refine br.yes ?_; conv => whnf) | (refine br.no ?_; conv => whnf))
  refine br_intro (fun h1 => ?_) (fun h1 => ?_)
  · have hkn : k < n := by simpa using h1
    have hk1 : k < M * M := by omega
    conv => whnf
    repeat (first | (refine br.yes ?_; conv => whnf) | (refine br.no ?_; conv => whnf))
    refine aw_blk ?_
    refine AW.cut ?_
    conv => whnf
    repeat (first | (refine br.yes ?_; conv => whnf) | (refine br.no ?_; conv => whnf))
    refine ⟨side_in ⟨by omega, by omega⟩, ?_⟩
    conv => whnf
    repeat (first | (refine br.yes ?_; conv => whnf) | (refine br.no ?_; conv => whnf))
    refine ⟨side_in (at_lt (by omega)), ?_⟩
    rw [nth_at]
    conv => whnf
    repeat (first | (refine br.yes ?_; conv => whnf) | (refine br.no ?_; conv => whnf))
    refine aw_assoc ?_
    refine AW.cut ?_
    conv => whnf
    repeat (first | (refine br.yes ?_; conv => whnf) | (refine br.no ?_; conv => whnf))
    refine ⟨side_in (by omega), ?_⟩
    conv => whnf
    repeat (first | (refine br.yes ?_; conv => whnf) | (refine br.no ?_; conv => whnf))
    rw [rem_nat, sub_one (by omega) (by omega), lss_nat]
    refine AW.cut ?_
    conv => whnf
    repeat (first | (refine br.yes ?_; conv => whnf) | (refine br.no ?_; conv => whnf))
    refine br_intro (fun g1 => ?_) (fun g1 => ?_)
    · have g1' : k % M < M - 1 := by simpa using g1
      have hin := row_in hk1 g1'
      conv => whnf
      repeat (first | (refine br.yes ?_; conv => whnf) | (refine br.no ?_; conv => whnf))
      rw [add_one (by omega)]
      refine ⟨side_in ⟨by omega, by omega⟩, ?_⟩
      conv => whnf
      repeat (first | (refine br.yes ?_; conv => whnf) | (refine br.no ?_; conv => whnf))
      refine ⟨side_in (at_lt (by omega)), ?_⟩
      rw [nth_at]
      conv => whnf
      repeat (first | (refine br.yes ?_; conv => whnf) | (refine br.no ?_; conv => whnf))
      refine ⟨side_in ⟨by decide, rfl, rfl, by omega, rfl⟩, fun cap' => ?_⟩
      conv => whnf
      repeat (first | (refine br.yes ?_; conv => whnf) | (refine br.no ?_; conv => whnf))
      rw [rows_len g1', show rowsTo xs M k ++ [arI .sub .i64 (xs.getD (k + 1) 0) (xs.getD k 0)] = rowsTo xs M (k + 1) from (rows_yes g1').symm]
      conv => whnf
      repeat (first | (refine br.yes ?_; conv => whnf) | (refine br.no ?_; conv => whnf))
      refine AW.cut ?_
      conv => whnf
      repeat (first | (refine br.yes ?_; conv => whnf) | (refine br.no ?_; conv => whnf))
      refine ⟨side_in (by omega), ?_⟩
      conv => whnf
      repeat (first | (refine br.yes ?_; conv => whnf) | (refine br.no ?_; conv => whnf))
      rw [quo_nat (by omega), sub_one (by omega) (by omega), lss_nat]
      refine AW.cond ?_
      conv => whnf
      repeat (first | (refine br.yes ?_; conv => whnf) | (refine br.no ?_; conv => whnf))
      refine br_intro (fun g2 => ?_) (fun g2 => ?_)
      · have g2' : k / M < M - 1 := by simpa using g2
        have hin2 := col_in g2'
        refine AW.mk ?_
        conv => whnf
        repeat (first | (refine br.yes ?_; conv => whnf) | (refine br.no ?_; conv => whnf))
        rw [show arI .add .i64 ((k : Nat) : Int) ((M : Nat) : Int) = ((k + M : Nat) : Int) from add_nat (by omega) (by omega)]
        refine ⟨side_in ⟨by omega, by omega⟩, ?_⟩
        conv => whnf
        repeat (first | (refine br.yes ?_; conv => whnf) | (refine br.no ?_; conv => whnf))
        refine ⟨side_in (at_lt (by omega)), ?_⟩
        rw [nth_at]
        conv => whnf
        repeat (first | (refine br.yes ?_; conv => whnf) | (refine br.no ?_; conv => whnf))
        refine ⟨side_in ⟨by decide, rfl, rfl, by omega, rfl⟩, fun cap2' => ?_⟩
        conv => whnf
        repeat (first | (refine br.yes ?_; conv => whnf) | (refine br.no ?_; conv => whnf))
        rw [cols_len g2', show colsTo xs M k ++ [arI .sub .i64 (xs.getD (k + M) 0) (xs.getD k 0)] = colsTo xs M (k + 1) from (cols_yes g2').symm]
        conv => whnf
        repeat (first | (refine br.yes ?_; conv => whnf) | (refine br.no ?_; conv => whnf))
        refine AW.mk ?_
        conv => whnf
        repeat (first | (refine br.yes ?_; conv => whnf) | (refine br.no ?_; conv => whnf))
        rw [add_one (by omega)]
        refine k1 _ _ (hR (by omega) _ _ _ [⟨false, .ai n xs, 0⟩, ⟨true, .ai (rowsTo xs M (k + 1)).length (rowsTo xs M (k + 1)), cap' * 1⟩, ⟨true, .ai (colsTo xs M (k + 1)).length (colsTo xs M (k + 1)), cap2' * 1⟩] ?hwfAa ?trfAa ⟨_, _, rfl, rfl⟩)
        case hwfAa =>
          repeat (first | exact weak_nil | refine weak_same ?_ | refine weak_junk ?_)
        case trfAa =>
          exact .inr ⟨3, by simp, rfl, rfl, rfl⟩
      · have g2' : ¬ k / M < M - 1 := by simpa using g2
        rw [← cols_no (xs := xs) g2']
        refine AW.mk ?_
        conv => whnf
        repeat (first | (refine br.yes ?_; conv => whnf) | (refine br.no ?_; conv => whnf))
        conv => whnf
        repeat (first | (refine br.yes ?_; conv => whnf) | (refine br.no ?_; conv => whnf))
        refine AW.mk ?_
        conv => whnf
        repeat (first | (refine br.yes ?_; conv => whnf) | (refine br.no ?_; conv => whnf))
        rw [add_one (by omega)]
        refine k1 _ _ (hR (by omega) _ _ _ [⟨false, .ai n xs, 0⟩, ⟨true, .ai (rowsTo xs M (k + 1)).length (rowsTo xs M (k + 1)), cap' * 1⟩, ⟨true, .ai (colsTo xs M (k + 1)).length (colsTo xs M (k + 1)), cap2 * 1⟩] ?hwfAb ?trfAb ⟨_, _, rfl, rfl⟩)
        case hwfAb =>
          repeat (first | exact weak_nil | refine weak_same ?_ | refine weak_junk ?_)
        case trfAb =>
          exact .inr ⟨3, by simp, rfl, rfl, rfl⟩
    · have g1' : ¬ k % M < M - 1 := by simpa using g1
      rw [← rows_no (xs := xs) g1']
      conv => whnf
      repeat (first | (refine br.yes ?_; conv => whnf) | (refine br.no ?_; conv => whnf))
      refine AW.cut ?_
      conv => whnf
      repeat (first | (refine br.yes ?_; conv => whnf) | (refine br.no ?_; conv => whnf))
      refine ⟨side_in (by omega), ?_⟩
      conv => whnf
      repeat (first | (refine br.yes ?_; conv => whnf) | (refine br.no ?_; conv => whnf))
      rw [quo_nat (by omega), sub_one (by omega) (by omega), lss_nat]
      refine AW.cond ?_
      conv => whnf
      repeat (first | (refine br.yes ?_; conv => whnf) | (refine br.no ?_; conv => whnf))
      refine br_intro (fun g2 => ?_) (fun g2 => ?_)
      · have g2' : k / M < M - 1 := by simpa using g2
        have hin2 := col_in g2'
        refine AW.mk ?_
        conv => whnf
        repeat (first | (refine br.yes ?_; conv => whnf) | (refine br.no ?_; conv => whnf))
        rw [show arI .add .i64 ((k : Nat) : Int) ((M : Nat) : Int) = ((k + M : Nat) : Int) from add_nat (by omega) (by omega)]
        refine ⟨side_in ⟨by omega, by omega⟩, ?_⟩
        conv => whnf
        repeat (first | (refine br.yes ?_; conv => whnf) | (refine br.no ?_; conv => whnf))
        refine ⟨side_in (at_lt (by omega)), ?_⟩
        rw [nth_at]
        conv => whnf
        repeat (first | (refine br.yes ?_; conv => whnf) | (refine br.no ?_; conv => whnf))
        refine ⟨side_in ⟨by decide, rfl, rfl, by omega, rfl⟩, fun cap2' => ?_⟩
        conv => whnf
        repeat (first | (refine br.yes ?_; conv => whnf) | (refine br.no ?_; conv => whnf))
        rw [cols_len g2', show colsTo xs M k ++ [arI .sub .i64 (xs.getD (k + M) 0) (xs.getD k 0)] = colsTo xs M (k + 1) from (cols_yes g2').symm]
        conv => whnf
        repeat (first | (refine br.yes ?_; conv => whnf) | (refine br.no ?_; conv => whnf))
        refine AW.mk ?_
        conv => whnf
        repeat (first | (refine br.yes ?_; conv => whnf) | (refine br.no ?_; conv => whnf))
        rw [add_one (by omega)]
        refine k1 _ _ (hR (by omega) _ _ _ [⟨false, .ai n xs, 0⟩, ⟨true, .ai (rowsTo xs M (k + 1)).length (rowsTo xs M (k + 1)), cap1 * 1⟩, ⟨true, .ai (colsTo xs M (k + 1)).length (colsTo xs M (k + 1)), cap2' * 1⟩] ?hwfBa ?trfBa ⟨_, _, rfl, rfl⟩)
        case hwfBa =>
          repeat (first | exact weak_nil | refine weak_same ?_ | refine weak_junk ?_)
        case trfBa =>
          exact .inr ⟨3, by simp, rfl, rfl, rfl⟩
      · have g2' : ¬ k / M < M - 1 := by simpa using g2
        rw [← cols_no (xs := xs) g2']
        refine AW.mk ?_
        conv => whnf
        repeat (first | (refine br.yes ?_; conv => whnf) | (refine br.no ?_; conv => whnf))
        conv => whnf
        repeat (first | (refine br.yes ?_; conv => whnf) | (refine br.no ?_; conv => whnf))
        refine AW.mk ?_
        conv => whnf
        repeat (first | (refine br.yes ?_; conv => whnf) | (refine br.no ?_; conv => whnf))
        rw [add_one (by omega)]
        refine k1 _ _ (hR (by omega) _ _ _ [⟨false, .ai n xs, 0⟩, ⟨true, .ai (rowsTo xs M (k + 1)).length (rowsTo xs M (k + 1)), cap1 * 1⟩, ⟨true, .ai (colsTo xs M (k + 1)).length (colsTo xs M (k + 1)), cap2 * 1⟩] ?hwfBb ?trfBb ⟨_, _, rfl, rfl⟩)
        case hwfBb =>
          repeat (first | exact weak_nil | refine weak_same ?_ | refine weak_junk ?_)
        case trfBb =>
          exact .inr ⟨3, by simp, rfl, rfl, rfl⟩
  · have hk2 : k = M * M := by simp at h1; omega
    subst hk2
    conv => whnf
    repeat (first | (refine br.yes ?_; conv => whnf) | (refine br.no ?_; conv => whnf))
    refine k3 0 _ _ ?_
    conv => whnf
    repeat (first | (refine br.yes ?_; conv => whnf) | (refine br.no ?_; conv => whnf))
    refine AW.cut ?_
    conv => whnf
    repeat (first | (refine br.yes ?_; conv => whnf) | (refine br.no ?_; conv => whnf))
    refine c65 (i := 1) rfl rfl rfl (by omega) (fun a ha => ?_)
    rw [set_1]
    conv => whnf
    repeat (first | (refine br.yes ?_; conv => whnf) | (refine br.no ?_; conv => whnf))
    refine c65 (i := 2) rfl rfl rfl (by omega) (fun b hb => ?_)
    rw [set_2]
    conv => whnf
    repeat (first | (refine br.yes ?_; conv => whnf) | (refine br.no ?_; conv => whnf))
    refine AW.mk ?_
    conv => whnf
    repeat (first | (refine br.yes ?_; conv => whnf) | (refine br.no ?_; conv => whnf))
    exact hK a b cap1 cap2 ha hb
/-! the law of the slopes, walked -/
theorem c38_g {N : Int} {i n c r : Nat} {o : Bool} {xs : List Int} (hi : getE m i = some ⟨o, .ai n xs, r⟩) (hx : xs.length = n) (hn : n ≤ 1048576) (hok : isMap N xs = true)
    (hK : ∀ (a b : Int) (cap1 cap2 : Nat), IsMost (rowsOf N xs) a → IsMost (colsOf N xs) b → K (.tup [.sl (m.length + 2) [] 1 0 2 2, AV.int 0]) (m ++ [⟨true, .ai (rowsOf N xs).length (rowsOf N xs), cap1 * 1⟩, ⟨true, .ai (colsOf N xs).length (colsOf N xs), cap2 * 1⟩, ⟨true, .ai 2 [a, b], 2⟩])) : CallLeaf Try.prog w0 38 [AV.int N, .sl i [] 1 0 n c] m K := by
  refine call_view1 (args0 := [AV.int N, .sl 0 [] 1 0 n c]) hi rfl rfl rfl fun w0 => ?_
  refine c38_v hx hn hok fun a b cap1 cap2 ha hb => ⟨_, rfl, rfl, fun e he => ?_, rfl, hK a b cap1 cap2 ha hb⟩
  simp at he
  rcases he with rfl | rfl | rfl <;> exact .inl rfl
theorem c39_g {N : Int} {i n c r : Nat} {o : Bool} {xs : List Int} (hi : getE m i = some ⟨o, .ai n xs, r⟩) (hx : xs.length = n) (hn : n ≤ 1048576) (hok : isMap N xs = true)
    (hK : ∀ (a b : Int) (cap1 cap2 : Nat), IsMost (rowsOf N xs) a → IsMost (colsOf N xs) b → K (.tup [.sl (m.length + 2) [] 1 0 2 2, AV.int 0]) (m ++ [⟨true, .ai (rowsOf N xs).length (srt (rowsOf N xs)), cap1 * 1⟩, ⟨true, .ai (colsOf N xs).length (srt (colsOf N xs)), cap2 * 1⟩, ⟨true, .ai 2 [a, b], 2⟩])) : CallLeaf Try.prog w0 39 [AV.int N, .sl i [] 1 0 n c] m K := by
  refine call_view1 (args0 := [AV.int N, .sl 0 [] 1 0 n c]) hi rfl rfl rfl fun w0 => ?_
  refine c39_v hx hn hok fun a b cap1 cap2 ha hb => ⟨_, rfl, rfl, fun e he => ?_, rfl, hK a b cap1 cap2 ha hb⟩
  simp at he
  rcases he with rfl | rfl | rfl <;> exact .inl rfl
set_option maxRecDepth 20000 in
theorem c12_ok {N : Int} {n c : Nat} {xs : List Int} (hx : xs.length = n) (hn : n ≤ 1048576) (hok : isMap N xs = true)
    (hK : ∀ m, K (AV.bool true) m) : CallLeaf Try.prog w0 12 [AV.int N, .sl 0 [] 1 0 n c] [⟨false, .ai n xs, 0⟩] K := by
  refine fn_go hmix h12 ?_
  conv => whnf
  repeat (first | (refine br.yes ?_; conv => whnf) | (refine br.no ?_; conv => whnf))
  refine br_false (by rw [cmI_gtr]; simp; omega) ?_
  conv => whnf
  repeat (first | (refine br.yes ?_; conv => whnf) | (refine br.no ?_; conv => whnf))
  refine c18 (i := 0) rfl hx hn ?_
  conv => whnf
  repeat (first | (refine br.yes ?_; conv => whnf) | (refine br.no ?_; conv => whnf))
  refine c38_g (i := 1) rfl hx hn hok (fun a b cap1 cap2 ha hb => ?_)
  conv => whnf
  repeat (first | (refine br.yes ?_; conv => whnf) | (refine br.no ?_; conv => whnf))
  refine c18 (i := 0) rfl hx hn ?_
  conv => whnf
  repeat (first | (refine br.yes ?_; conv => whnf) | (refine br.no ?_; conv => whnf))
  refine c39_g (i := 5) rfl hx hn hok (fun a' b' cap3 cap4 ha' hb' => ?_)
  obtain rfl := most_unique ha ha'
  obtain rfl := most_unique hb hb'
  conv => whnf
  repeat (first | (refine br.yes ?_; conv => whnf) | (refine br.no ?_; conv => whnf))
  refine c20 (i := 8) (j := 4) rfl rfl rfl rfl (by decide) ?_
  conv => whnf
  repeat (first | (refine br.yes ?_; conv => whnf) | (refine br.no ?_; conv => whnf))
  refine br_false (by rw [notB_eq]; simp) ?_
  conv => whnf
  repeat (first | (refine br.yes ?_; conv => whnf) | (refine br.no ?_; conv => whnf))
  refine br_false (neq_self _) ?_
  conv => whnf
  repeat (first | (refine br.yes ?_; conv => whnf) | (refine br.no ?_; conv => whnf))
  refine c18 (i := 0) rfl hx hn ?_
  conv => whnf
  repeat (first | (refine br.yes ?_; conv => whnf) | (refine br.no ?_; conv => whnf))
  refine c20 (i := 5) (j := 9) rfl rfl hx hx (by omega) ?_
  conv => whnf
  repeat (first | (refine br.yes ?_; conv => whnf) | (refine br.no ?_; conv => whnf))
  refine br_false (by rw [notB_eq]; simp) ?_
  conv => whnf
  repeat (first | (refine br.yes ?_; conv => whnf) | (refine br.no ?_; conv => whnf))
  refine c28 (i := 5) rfl hx hn (by decide) (fun ys hy hmy => ?_)
  conv => whnf
  repeat (first | (refine br.yes ?_; conv => whnf) | (refine br.no ?_; conv => whnf))
  refine br_false (by rw [cmI_lss]; simp; try omega) ?_
  conv => whnf
  repeat (first | (refine br.yes ?_; conv => whnf) | (refine br.no ?_; conv => whnf))
  refine c20 (i := 8) (j := 4) rfl rfl rfl rfl (by decide) ?_
  conv => whnf
  repeat (first | (refine br.yes ?_; conv => whnf) | (refine br.no ?_; conv => whnf))
  refine br_false (by rw [notB_eq]; simp) ?_
  conv => whnf
  repeat (first | (refine br.yes ?_; conv => whnf) | (refine br.no ?_; conv => whnf))
  refine br_false (neq_self _) ?_
  conv => whnf
  repeat (first | (refine br.yes ?_; conv => whnf) | (refine br.no ?_; conv => whnf))
  refine c28 (i := 8) rfl rfl (by decide) (by decide) (fun zs hz hmz => ?_)
  conv => whnf
  repeat (first | (refine br.yes ?_; conv => whnf) | (refine br.no ?_; conv => whnf))
  refine c29 (i := 8) rfl hz (by decide) (by decide) hmz ?_
  conv => whnf
  repeat (first | (refine br.yes ?_; conv => whnf) | (refine br.no ?_; conv => whnf))
  refine br_false (by rw [cmI_lss]; simp; try omega) ?_
  conv => whnf
  repeat (first | (refine br.yes ?_; conv => whnf) | (refine br.no ?_; conv => whnf))
  refine br_false (neq_self _) ?_
  conv => whnf
  repeat (first | (refine br.yes ?_; conv => whnf) | (refine br.no ?_; conv => whnf))
  refine c18 (i := 0) rfl hx hn ?_
  conv => whnf
  repeat (first | (refine br.yes ?_; conv => whnf) | (refine br.no ?_; conv => whnf))
  refine c39_g (i := 10) rfl hx hn hok (fun a' b' cap5 cap6 ha' hb' => ?_)
  obtain rfl := most_unique ha ha'
  obtain rfl := most_unique hb hb'
  conv => whnf
  repeat (first | (refine br.yes ?_; conv => whnf) | (refine br.no ?_; conv => whnf))
  refine c20 (i := 13) (j := 4) rfl rfl rfl rfl (by decide) ?_
  conv => whnf
  repeat (first | (refine br.yes ?_; conv => whnf) | (refine br.no ?_; conv => whnf))
  refine br_false (by rw [notB_eq]; simp) ?_
  conv => whnf
  repeat (first | (refine br.yes ?_; conv => whnf) | (refine br.no ?_; conv => whnf))
  refine br_false (neq_self _) ?_
  conv => whnf
  repeat (first | (refine br.yes ?_; conv => whnf) | (refine br.no ?_; conv => whnf))
  refine c29 (i := 8) rfl hz (by decide) (by decide) hmz ?_
  conv => whnf
  repeat (first | (refine br.yes ?_; conv => whnf) | (refine br.no ?_; conv => whnf))
  refine br_false (by rw [cmI_lss]; simp; try omega) ?_
  conv => whnf
  repeat (first | (refine br.yes ?_; conv => whnf) | (refine br.no ?_; conv => whnf))
  refine br_false (neq_self _) ?_
  conv => whnf
  repeat (first | (refine br.yes ?_; conv => whnf) | (refine br.no ?_; conv => whnf))
  exact hK _
set_option maxRecDepth 20000 in
theorem c12_bad {N : Int} {n c : Nat} {xs : List Int} (hx : xs.length = n) (hn : n ≤ 1048576) (hno : isMap N xs = false)
    (hK : ∀ m, K (AV.bool true) m) : CallLeaf Try.prog w0 12 [AV.int N, .sl 0 [] 1 0 n c] [⟨false, .ai n xs, 0⟩] K := by
  refine fn_go hmix h12 ?_
  conv => whnf
  repeat (first | (refine br.yes ?_; conv => whnf) | (refine br.no ?_; conv => whnf))
  refine br_false (by rw [cmI_gtr]; simp; omega) ?_
  conv => whnf
  repeat (first | (refine br.yes ?_; conv => whnf) | (refine br.no ?_; conv => whnf))
  refine c18 (i := 0) rfl hx hn ?_
  conv => whnf
  repeat (first | (refine br.yes ?_; conv => whnf) | (refine br.no ?_; conv => whnf))
  refine c38_bad rfl hx hn hno ?_
  conv => whnf
  repeat (first | (refine br.yes ?_; conv => whnf) | (refine br.no ?_; conv => whnf))
  refine c18 (i := 0) rfl hx hn ?_
  conv => whnf
  repeat (first | (refine br.yes ?_; conv => whnf) | (refine br.no ?_; conv => whnf))
  refine c39_bad rfl hx hn hno ?_
  conv => whnf
  repeat (first | (refine br.yes ?_; conv => whnf) | (refine br.no ?_; conv => whnf))
  refine c20n ?_
  conv => whnf
  repeat (first | (refine br.yes ?_; conv => whnf) | (refine br.no ?_; conv => whnf))
  refine br_false (by rw [notB_eq]; rfl) ?_
  conv => whnf
  repeat (first | (refine br.yes ?_; conv => whnf) | (refine br.no ?_; conv => whnf))
  refine br_false (neq_self _) ?_
  conv => whnf
  repeat (first | (refine br.yes ?_; conv => whnf) | (refine br.no ?_; conv => whnf))
  refine c18 (i := 0) rfl hx hn ?_
  conv => whnf
  repeat (first | (refine br.yes ?_; conv => whnf) | (refine br.no ?_; conv => whnf))
  refine c20 (i := 2) (j := 3) rfl rfl hx hx (by omega) ?_
  conv => whnf
  repeat (first | (refine br.yes ?_; conv => whnf) | (refine br.no ?_; conv => whnf))
  refine br_false (by rw [notB_eq]; simp) ?_
  conv => whnf
  repeat (first | (refine br.yes ?_; conv => whnf) | (refine br.no ?_; conv => whnf))
  refine c28 (i := 2) rfl hx hn (by decide) (fun ys hy hmy => ?_)
  conv => whnf
  repeat (first | (refine br.yes ?_; conv => whnf) | (refine br.no ?_; conv => whnf))
  refine br_false (by rw [cmI_lss]; simp; try omega) ?_
  conv => whnf
  repeat (first | (refine br.yes ?_; conv => whnf) | (refine br.no ?_; conv => whnf))
  refine c20n ?_
  conv => whnf
  repeat (first | (refine br.yes ?_; conv => whnf) | (refine br.no ?_; conv => whnf))
  refine br_false (by rw [notB_eq]; rfl) ?_
  conv => whnf
  repeat (first | (refine br.yes ?_; conv => whnf) | (refine br.no ?_; conv => whnf))
  refine br_false (neq_self _) ?_
  conv => whnf
  repeat (first | (refine br.yes ?_; conv => whnf) | (refine br.no ?_; conv => whnf))
  refine c28n ?_
  conv => whnf
  repeat (first | (refine br.yes ?_; conv => whnf) | (refine br.no ?_; conv => whnf))
  refine c29n ?_
  conv => whnf
  repeat (first | (refine br.yes ?_; conv => whnf) | (refine br.no ?_; conv => whnf))
  refine br_false (by rw [cmI_lss]; simp; try omega) ?_
  conv => whnf
  repeat (first | (refine br.yes ?_; conv => whnf) | (refine br.no ?_; conv => whnf))
  refine br_false (neq_self _) ?_
  conv => whnf
  repeat (first | (refine br.yes ?_; conv => whnf) | (refine br.no ?_; conv => whnf))
  refine c18 (i := 0) rfl hx hn ?_
  conv => whnf
  repeat (first | (refine br.yes ?_; conv => whnf) | (refine br.no ?_; conv => whnf))
  refine c39_bad rfl hx hn hno ?_
  conv => whnf
  repeat (first | (refine br.yes ?_; conv => whnf) | (refine br.no ?_; conv => whnf))
  refine c20n ?_
  conv => whnf
  repeat (first | (refine br.yes ?_; conv => whnf) | (refine br.no ?_; conv => whnf))
  refine br_false (by rw [notB_eq]; rfl) ?_
  conv => whnf
  repeat (first | (refine br.yes ?_; conv => whnf) | (refine br.no ?_; conv => whnf))
  refine br_false (neq_self _) ?_
  conv => whnf
  repeat (first | (refine br.yes ?_; conv => whnf) | (refine br.no ?_; conv => whnf))
  refine c29n ?_
  conv => whnf
  repeat (first | (refine br.yes ?_; conv => whnf) | (refine br.no ?_; conv => whnf))
  refine br_false (by rw [cmI_lss]; simp; try omega) ?_
  conv => whnf
  repeat (first | (refine br.yes ?_; conv => whnf) | (refine br.no ?_; conv => whnf))
  refine br_false (neq_self _) ?_
  conv => whnf
  repeat (first | (refine br.yes ?_; conv => whnf) | (refine br.no ?_; conv => whnf))
  exact hK _
theorem c12 {N : Int} {n c : Nat} {xs : List Int} (hx : xs.length = n)
    (hK : ∀ m, K (AV.bool true) m) : CallLeaf Try.prog w0 12 [AV.int N, .sl 0 [] 1 0 n c] [⟨false, .ai n xs, 0⟩] K := by
  by_cases hn : n ≤ 1048576
  · by_cases hok : isMap N xs = true
    · exact c12_ok hx hn hok hK
    · exact c12_bad hx hn (by simpa using hok) hK
  · refine fn_go hmix h12 ?_
    conv => whnf
    repeat (first | (refine br.yes ?_; conv => whnf) | (refine br.no ?_; conv => whnf))
    refine br_true (by rw [cmI_gtr]; simp; omega) ?_
    conv => whnf
    repeat (first | (refine br.yes ?_; conv => whnf) | (refine br.no ?_; conv => whnf))
    exact hK _
end
end Go.Proofs.Ytfkbgfpidolhhaa
