/- The library's sort, walked: the whole. -/
import Derived.Test.YtfkbgfpidolhhaaSor1
namespace Go.Proofs.Ytfkbgfpidolhhaa
open Go Go.Fw
section
variable {w0 : World} {m : MS} {K : AV → MS → Prop}
/-! the cut -/
def partA (R : Nat × Bool × Array Int) : AV := .tup [AV.int R.1, AV.bool R.2.1]
set_option maxRecDepth 20000 in
set_option maxHeartbeats 6400000 in
theorem c_part {a b pv n c r i : Nat} {e : Ent} {d : Array Int} (hi : getE m i = some e) (hn : n ≤ 400000) (hb : b ≤ n) (hab : a < b) (hpv : pv < n)
    (hK : K (partA (Go.Sort.partition Go.Sort.ltInt d a b pv)) (rowM m i n r (Go.Sort.partition Go.Sort.ltInt d a b pv).2.2)) : CallLeaf Try.prog w0 84 [.sl i [] 1 0 n c, AV.int a, AV.int b, AV.int pv] (rowM m i n r d) K := by
  obtain ⟨T, hd⟩ : ∃ T, T = Go.Sort.partition Go.Sort.ltInt d a b pv := ⟨_, rfl⟩
  rw [← hd] at hK
  unfold Go.Sort.partition at hd
  simp only at hd
  refine fn_cut hmix h84 ?_
  conv => whnf
  repeat (first | (refine br.yes ?_; conv => whnf) | (refine br.no ?_; conv => whnf))
  refine AW.cut ?_
  conv => whnf
  repeat (first | (refine br.yes ?_; conv => whnf) | (refine br.no ?_; conv => whnf))
  refine AW.cut ?_
  conv => whnf
  repeat (first | (refine br.yes ?_; conv => whnf) | (refine br.no ?_; conv => whnf))
  refine ⟨side_in ⟨by omega, by omega⟩, ?_⟩
  conv => whnf
  repeat (first | (refine br.yes ?_; conv => whnf) | (refine br.no ?_; conv => whnf))
  rw [row_get hi]
  conv => whnf
  repeat (first | (refine br.yes ?_; conv => whnf) | (refine br.no ?_; conv => whnf))
  refine ⟨side_in (at_lt (by omega)), ?_⟩
  rw [row_nth]
  conv => whnf
  repeat (first | (refine br.yes ?_; conv => whnf) | (refine br.no ?_; conv => whnf))
  refine ⟨side_in ⟨by omega, by omega⟩, ?_⟩
  conv => whnf
  repeat (first | (refine br.yes ?_; conv => whnf) | (refine br.no ?_; conv => whnf))
  rw [row_get hi]
  conv => whnf
  repeat (first | (refine br.yes ?_; conv => whnf) | (refine br.no ?_; conv => whnf))
  refine ⟨side_in (at_lt (by omega)), ?_⟩
  rw [row_nth]
  conv => whnf
  repeat (first | (refine br.yes ?_; conv => whnf) | (refine br.no ?_; conv => whnf))
  refine ⟨side_in ⟨by omega, by omega⟩, ?_⟩
  conv => whnf
  repeat (first | (refine br.yes ?_; conv => whnf) | (refine br.no ?_; conv => whnf))
  rw [row_get hi]
  conv => whnf
  repeat (first | (refine br.yes ?_; conv => whnf) | (refine br.no ?_; conv => whnf))
  refine ⟨side_in (at_lt (by omega)), ?_⟩
  conv => whnf
  repeat (first | (refine br.yes ?_; conv => whnf) | (refine br.no ?_; conv => whnf))
  rw [row_put]
  conv => whnf
  repeat (first | (refine br.yes ?_; conv => whnf) | (refine br.no ?_; conv => whnf))
  refine ⟨side_in ⟨by omega, by omega⟩, ?_⟩
  conv => whnf
  repeat (first | (refine br.yes ?_; conv => whnf) | (refine br.no ?_; conv => whnf))
  rw [row_get hi]
  conv => whnf
  repeat (first | (refine br.yes ?_; conv => whnf) | (refine br.no ?_; conv => whnf))
  refine ⟨side_in (at_lt (by omega)), ?_⟩
  conv => whnf
  repeat (first | (refine br.yes ?_; conv => whnf) | (refine br.no ?_; conv => whnf))
  rw [row_put]
  conv => whnf
  repeat (first | (refine br.yes ?_; conv => whnf) | (refine br.no ?_; conv => whnf))
  rw [swp_eq]
  generalize Go.Sort.swp d a pv = d0 at hd ⊢
  conv => whnf
  repeat (first | (refine br.yes ?_; conv => whnf) | (refine br.no ?_; conv => whnf))
  refine AW.cut ?_
  conv => whnf
  repeat (first | (refine br.yes ?_; conv => whnf) | (refine br.no ?_; conv => whnf))
  rw [add_one (by omega), sub_one (by omega) (by omega)]
  generalize hbb : b - 1 = bb at hd ⊢
  obtain ⟨f11P, f12P, -, f14P⟩ := Go.Sort.scanUp_spec (fun x => Go.Sort.ltInt x d0[a]!) d0 bb _ (a + 1) rfl
  obtain ⟨f21P, f22P, -, f24P⟩ := Go.Sort.scanDown_spec (fun x => !Go.Sort.ltInt x d0[a]!) d0 (Go.Sort.scanUp (fun x => Go.Sort.ltInt x d0[a]!) d0 bb (a + 1)) bb
  have f12P := f12P (by omega)
  generalize hIP : Go.Sort.scanUp (fun x => Go.Sort.ltInt x d0[a]!) d0 bb (a + 1) = IP at hd f11P f12P f14P f21P f22P f24P
  have f22P := f22P f12P
  generalize hJP : Go.Sort.scanDown (fun x => !Go.Sort.ltInt x d0[a]!) d0 IP bb = JP at hd f21P f22P f24P
  have fneP : IP ≤ JP → IP ≠ JP := by
    intro h1 h2
    rw [← h2] at f24P
    have h3 := f14P (by omega)
    have h4 := f24P (Nat.le_refl _) (by omega)
    rw [h3] at h4
    simp at h4
  refine aw_blk ?_
  refine aw_loop ?_
  refine loop_opq n (fun q ts M => ∃ i', M = rowM m i n r d0 ∧ (i' = (a + 1) + q ∧ i' ≤ bb + 1) ∧ Go.Sort.scanUp (fun x => Go.Sort.ltInt x d0[a]!) d0 bb i' = IP ∧ ts = [.sl i [] 1 0 n c, AV.int a, AV.int b, AV.int pv, .junk, .junk, .junk, .junk, AV.int 0, AV.bool false, AV.int i', AV.int bb, .junk, .junk, .junk, .junk, .junk, .junk, .junk, .junk, .junk, .junk, .junk, .junk, .junk, .junk, .junk, .junk, .junk, .junk, .junk, .junk, .junk, .junk, .junk, .junk, .junk, .junk, .junk, .junk, .junk, .junk, .junk, .junk, .junk, .junk, .junk, .junk, .junk, .junk, .junk, .junk, .junk, .junk, .junk, .junk, .junk, .junk, .junk, .junk, .junk, .junk, .junk, .junk, .junk, .junk, .junk, .junk, .junk, .junk, .junk, .junk, .junk, .junk, .junk, .junk, .junk, .junk, .junk, .junk, .junk, .junk, .junk, .junk, .junk, .junk, .junk, .junk, .junk, .junk, .junk, .junk, .junk, .junk, .junk, .junk, .junk, .junk, .junk, .junk, .junk, .junk, .junk, .junk, .junk, .junk, .junk, .junk, .junk, .junk, .junk, .junk, .junk, .junk, .junk, .junk, .junk, .junk, .junk, .junk, .junk, .junk, .junk, .junk, .junk, .junk, .junk, .junk, .junk, .junk, .junk, .junk, .junk, .junk, .junk, .junk, .junk, .junk, .junk, .junk, .junk, .junk, .junk, .junk, .junk, .junk, .junk, .junk, .junk, .junk, .junk, .junk, .junk, .junk, .junk, .junk, .junk, .junk, .junk, .junk, .junk, .junk, .junk, .junk, .junk, .junk, .junk, .junk]) _ _ ?hwAP trim_no ⟨(a + 1), rfl, by omega, hIP, rfl⟩ ?_
  case hwAP =>
    repeat (first | exact weak_nil | refine weak_same ?_ | refine weak_junk ?_)
  rintro qP hqP ts m' ⟨i', rfl, hi', hI', rfl⟩ RP hRP KKP aP bP cP
  show AW _ _ _ _ _ _ _
  have finP : ∀ x30 x31 x32 x33 x34 x35 x36 x37 x38 x39 x40 x41 x42 x43 : AV, i' = IP → KKP (.exit 0) [.sl i [] 1 0 n c, AV.int a, AV.int b, AV.int pv, .junk, .junk, .junk, .junk, AV.int 0, AV.bool false, AV.int i', AV.int bb, .junk, .junk, .junk, .junk, .junk, .junk, .junk, .junk, .junk, .junk, .junk, .junk, .junk, .junk, .junk, .junk, .junk, .junk, x30, x31, x32, x33, x34, x35, x36, x37, x38, x39, x40, x41, x42, x43, .junk, .junk, .junk, .junk, .junk, .junk, .junk, .junk, .junk, .junk, .junk, .junk, .junk, .junk, .junk, .junk, .junk, .junk, .junk, .junk, .junk, .junk, .junk, .junk, .junk, .junk, .junk, .junk, .junk, .junk, .junk, .junk, .junk, .junk, .junk, .junk, .junk, .junk, .junk, .junk, .junk, .junk, .junk, .junk, .junk, .junk, .junk, .junk, .junk, .junk, .junk, .junk, .junk, .junk, .junk, .junk, .junk, .junk, .junk, .junk, .junk, .junk, .junk, .junk, .junk, .junk, .junk, .junk, .junk, .junk, .junk, .junk, .junk, .junk, .junk, .junk, .junk, .junk, .junk, .junk, .junk, .junk, .junk, .junk, .junk, .junk, .junk, .junk, .junk, .junk, .junk, .junk, .junk, .junk, .junk, .junk, .junk, .junk, .junk, .junk, .junk, .junk, .junk, .junk, .junk, .junk, .junk, .junk, .junk, .junk, .junk, .junk, .junk, .junk, .junk, .junk, .junk, .junk, .junk, .junk, .junk, .junk, .junk, .junk] (rowM m i n r d0) := by
    intro x30 x31 x32 x33 x34 x35 x36 x37 x38 x39 x40 x41 x42 x43 hII
    have hII := hII.symm
    subst hII
    refine cP 0 _ _ ?_
    conv => whnf
    repeat (first | (refine br.yes ?_; conv => whnf) | (refine br.no ?_; conv => whnf))
    refine aw_blk ?_
    refine aw_loop ?_
    refine loop_opq n (fun q ts M => ∃ j', M = rowM m i n r d0 ∧ (j' + q = bb ∧ IP ≤ j' + 1) ∧ Go.Sort.scanDown (fun x => !Go.Sort.ltInt x d0[a]!) d0 IP j' = JP ∧ ts = [.sl i [] 1 0 n c, AV.int a, AV.int b, AV.int pv, .junk, .junk, .junk, .junk, AV.int 0, AV.bool false, AV.int IP, AV.int j', .junk, .junk, .junk, .junk, .junk, .junk, .junk, .junk, .junk, .junk, .junk, .junk, .junk, .junk, .junk, .junk, .junk, .junk, .junk, .junk, .junk, .junk, .junk, .junk, .junk, .junk, .junk, .junk, .junk, .junk, .junk, .junk, .junk, .junk, .junk, .junk, .junk, .junk, .junk, .junk, .junk, .junk, .junk, .junk, .junk, .junk, .junk, .junk, .junk, .junk, .junk, .junk, .junk, .junk, .junk, .junk, .junk, .junk, .junk, .junk, .junk, .junk, .junk, .junk, .junk, .junk, .junk, .junk, .junk, .junk, .junk, .junk, .junk, .junk, .junk, .junk, .junk, .junk, .junk, .junk, .junk, .junk, .junk, .junk, .junk, .junk, .junk, .junk, .junk, .junk, .junk, .junk, .junk, .junk, .junk, .junk, .junk, .junk, .junk, .junk, .junk, .junk, .junk, .junk, .junk, .junk, .junk, .junk, .junk, .junk, .junk, .junk, .junk, .junk, .junk, .junk, .junk, .junk, .junk, .junk, .junk, .junk, .junk, .junk, .junk, .junk, .junk, .junk, .junk, .junk, .junk, .junk, .junk, .junk, .junk, .junk, .junk, .junk, .junk, .junk, .junk, .junk, .junk, .junk, .junk, .junk, .junk, .junk, .junk, .junk, .junk, .junk, .junk, .junk, .junk, .junk]) _ _ ?hwCP trim_no ⟨bb, rfl, by omega, hJP, rfl⟩ ?_
    case hwCP =>
      repeat (first | exact weak_nil | refine weak_same ?_ | refine weak_junk ?_)
    rintro qP hqP ts m' ⟨j', rfl, hj', hJ', rfl⟩ QP hQP QQP uP vP wP
    show AW _ _ _ _ _ _ _
    have ginP : ∀ x46 x47 x48 x49 x50 x51 x52 x53 x54 x55 x56 x57 x58 x59 x60 : AV, j' = JP → QQP (.exit 2) [.sl i [] 1 0 n c, AV.int a, AV.int b, AV.int pv, .junk, .junk, .junk, .junk, AV.int 0, AV.bool false, AV.int IP, AV.int j', .junk, .junk, .junk, .junk, .junk, .junk, .junk, .junk, .junk, .junk, .junk, .junk, .junk, .junk, .junk, .junk, .junk, .junk, .junk, .junk, .junk, .junk, .junk, .junk, .junk, .junk, .junk, .junk, .junk, .junk, .junk, .junk, .junk, .junk, x46, x47, x48, x49, x50, x51, x52, x53, x54, x55, x56, x57, x58, x59, x60, .junk, .junk, .junk, .junk, .junk, .junk, .junk, .junk, .junk, .junk, .junk, .junk, .junk, .junk, .junk, .junk, .junk, .junk, .junk, .junk, .junk, .junk, .junk, .junk, .junk, .junk, .junk, .junk, .junk, .junk, .junk, .junk, .junk, .junk, .junk, .junk, .junk, .junk, .junk, .junk, .junk, .junk, .junk, .junk, .junk, .junk, .junk, .junk, .junk, .junk, .junk, .junk, .junk, .junk, .junk, .junk, .junk, .junk, .junk, .junk, .junk, .junk, .junk, .junk, .junk, .junk, .junk, .junk, .junk, .junk, .junk, .junk, .junk, .junk, .junk, .junk, .junk, .junk, .junk, .junk, .junk, .junk, .junk, .junk, .junk, .junk, .junk, .junk, .junk, .junk, .junk, .junk, .junk, .junk, .junk, .junk, .junk, .junk, .junk, .junk, .junk, .junk, .junk, .junk, .junk, .junk, .junk] (rowM m i n r d0) := by
      intro x46 x47 x48 x49 x50 x51 x52 x53 x54 x55 x56 x57 x58 x59 x60 hJJ
      have hJJ := hJJ.symm
      subst hJJ
      refine wP 2 _ _ ?_
      conv => whnf
      repeat (first | (refine br.yes ?_; conv => whnf) | (refine br.no ?_; conv => whnf))
      refine aw_assoc ?_
      refine AW.cut ?_
      conv => whnf
      repeat (first | (refine br.yes ?_; conv => whnf) | (refine br.no ?_; conv => whnf))
      rw [gtr_nat]
      refine AW.cut ?_
      conv => whnf
      repeat (first | (refine br.yes ?_; conv => whnf) | (refine br.no ?_; conv => whnf))
      refine br_intro (fun s1 => ?_) (fun s1 => ?_)
      · have s1' : IP > JP := by simpa using s1
        rw [if_pos s1'] at hd
        conv => whnf
        repeat (first | (refine br.yes ?_; conv => whnf) | (refine br.no ?_; conv => whnf))
        refine ⟨side_in ⟨by omega, by omega⟩, ?_⟩
        conv => whnf
        repeat (first | (refine br.yes ?_; conv => whnf) | (refine br.no ?_; conv => whnf))
        rw [row_get hi]
        conv => whnf
        repeat (first | (refine br.yes ?_; conv => whnf) | (refine br.no ?_; conv => whnf))
        refine ⟨side_in (at_lt (by omega)), ?_⟩
        rw [row_nth]
        conv => whnf
        repeat (first | (refine br.yes ?_; conv => whnf) | (refine br.no ?_; conv => whnf))
        refine ⟨side_in ⟨by omega, by omega⟩, ?_⟩
        conv => whnf
        repeat (first | (refine br.yes ?_; conv => whnf) | (refine br.no ?_; conv => whnf))
        rw [row_get hi]
        conv => whnf
        repeat (first | (refine br.yes ?_; conv => whnf) | (refine br.no ?_; conv => whnf))
        refine ⟨side_in (at_lt (by omega)), ?_⟩
        rw [row_nth]
        conv => whnf
        repeat (first | (refine br.yes ?_; conv => whnf) | (refine br.no ?_; conv => whnf))
        refine ⟨side_in ⟨by omega, by omega⟩, ?_⟩
        conv => whnf
        repeat (first | (refine br.yes ?_; conv => whnf) | (refine br.no ?_; conv => whnf))
        rw [row_get hi]
        conv => whnf
        repeat (first | (refine br.yes ?_; conv => whnf) | (refine br.no ?_; conv => whnf))
        refine ⟨side_in (at_lt (by omega)), ?_⟩
        conv => whnf
        repeat (first | (refine br.yes ?_; conv => whnf) | (refine br.no ?_; conv => whnf))
        rw [row_put]
        conv => whnf
        repeat (first | (refine br.yes ?_; conv => whnf) | (refine br.no ?_; conv => whnf))
        refine ⟨side_in ⟨by omega, by omega⟩, ?_⟩
        conv => whnf
        repeat (first | (refine br.yes ?_; conv => whnf) | (refine br.no ?_; conv => whnf))
        rw [row_get hi]
        conv => whnf
        repeat (first | (refine br.yes ?_; conv => whnf) | (refine br.no ?_; conv => whnf))
        refine ⟨side_in (at_lt (by omega)), ?_⟩
        conv => whnf
        repeat (first | (refine br.yes ?_; conv => whnf) | (refine br.no ?_; conv => whnf))
        rw [row_put]
        conv => whnf
        repeat (first | (refine br.yes ?_; conv => whnf) | (refine br.no ?_; conv => whnf))
        rw [swp_eq]
        conv => whnf
        repeat (first | (refine br.yes ?_; conv => whnf) | (refine br.no ?_; conv => whnf))
        rw [hd] at hK
        exact hK
      · have s1' : ¬ IP > JP := by simpa using s1
        rw [if_neg s1'] at hd
        have fneP := fneP (by omega)
        obtain ⟨T2, hT2⟩ : ∃ T2, T2 = Go.Sort.partLoop Go.Sort.ltInt a (IP + 1) (JP - 1) (Go.Sort.swp d0 IP JP) := ⟨_, rfl⟩
        rw [← hT2] at hd
        rw [hd] at hK
        clear hd
        conv => whnf
        repeat (first | (refine br.yes ?_; conv => whnf) | (refine br.no ?_; conv => whnf))
        refine AW.cut ?_
        conv => whnf
        repeat (first | (refine br.yes ?_; conv => whnf) | (refine br.no ?_; conv => whnf))
        refine ⟨side_in ⟨by omega, by omega⟩, ?_⟩
        conv => whnf
        repeat (first | (refine br.yes ?_; conv => whnf) | (refine br.no ?_; conv => whnf))
        rw [row_get hi]
        conv => whnf
        repeat (first | (refine br.yes ?_; conv => whnf) | (refine br.no ?_; conv => whnf))
        refine ⟨side_in (at_lt (by omega)), ?_⟩
        rw [row_nth]
        conv => whnf
        repeat (first | (refine br.yes ?_; conv => whnf) | (refine br.no ?_; conv => whnf))
        refine ⟨side_in ⟨by omega, by omega⟩, ?_⟩
        conv => whnf
        repeat (first | (refine br.yes ?_; conv => whnf) | (refine br.no ?_; conv => whnf))
        rw [row_get hi]
        conv => whnf
        repeat (first | (refine br.yes ?_; conv => whnf) | (refine br.no ?_; conv => whnf))
        refine ⟨side_in (at_lt (by omega)), ?_⟩
        rw [row_nth]
        conv => whnf
        repeat (first | (refine br.yes ?_; conv => whnf) | (refine br.no ?_; conv => whnf))
        refine ⟨side_in ⟨by omega, by omega⟩, ?_⟩
        conv => whnf
        repeat (first | (refine br.yes ?_; conv => whnf) | (refine br.no ?_; conv => whnf))
        rw [row_get hi]
        conv => whnf
        repeat (first | (refine br.yes ?_; conv => whnf) | (refine br.no ?_; conv => whnf))
        refine ⟨side_in (at_lt (by omega)), ?_⟩
        conv => whnf
        repeat (first | (refine br.yes ?_; conv => whnf) | (refine br.no ?_; conv => whnf))
        rw [row_put]
        conv => whnf
        repeat (first | (refine br.yes ?_; conv => whnf) | (refine br.no ?_; conv => whnf))
        refine ⟨side_in ⟨by omega, by omega⟩, ?_⟩
        conv => whnf
        repeat (first | (refine br.yes ?_; conv => whnf) | (refine br.no ?_; conv => whnf))
        rw [row_get hi]
        conv => whnf
        repeat (first | (refine br.yes ?_; conv => whnf) | (refine br.no ?_; conv => whnf))
        refine ⟨side_in (at_lt (by omega)), ?_⟩
        conv => whnf
        repeat (first | (refine br.yes ?_; conv => whnf) | (refine br.no ?_; conv => whnf))
        rw [row_put]
        conv => whnf
        repeat (first | (refine br.yes ?_; conv => whnf) | (refine br.no ?_; conv => whnf))
        rw [swp_eq]
        conv => whnf
        repeat (first | (refine br.yes ?_; conv => whnf) | (refine br.no ?_; conv => whnf))
        refine AW.cut ?_
        conv => whnf
        repeat (first | (refine br.yes ?_; conv => whnf) | (refine br.no ?_; conv => whnf))
        rw [add_one (by omega)]
        refine AW.cut ?_
        conv => whnf
        repeat (first | (refine br.yes ?_; conv => whnf) | (refine br.no ?_; conv => whnf))
        rw [sub_one (by omega) (by omega)]
        refine aw_blk ?_
        refine aw_loop ?_
        refine loop_opq n (fun k ts M => ∃ d1 i1 j1, M = rowM m i n r d1 ∧ (a < i1 ∧ i1 ≤ j1 + 1 ∧ j1 < b ∧ k + (j1 + 1 - i1) ≤ n) ∧ Go.Sort.partLoop Go.Sort.ltInt a i1 j1 d1 = T2 ∧ ts = [.sl i [] 1 0 n c, AV.int a, AV.int b, AV.int pv, .junk, .junk, .junk, .junk, AV.int 0, AV.bool false, AV.int i1, AV.int j1, .junk, .junk, .junk, .junk, .junk, .junk, .junk, .junk, .junk, .junk, .junk, .junk, .junk, .junk, .junk, .junk, .junk, .junk, .junk, .junk, .junk, .junk, .junk, .junk, .junk, .junk, .junk, .junk, .junk, .junk, .junk, .junk, .junk, .junk, .junk, .junk, .junk, .junk, .junk, .junk, .junk, .junk, .junk, .junk, .junk, .junk, .junk, .junk, .junk, .junk, .junk, .junk, .junk, .junk, .junk, .junk, .junk, .junk, .junk, .junk, .junk, .junk, .junk, .junk, .junk, .junk, .junk, .junk, .junk, .junk, .junk, .junk, .junk, .junk, .junk, .junk, .junk, .junk, .junk, .junk, .junk, .junk, .junk, .junk, .junk, .junk, .junk, .junk, .junk, .junk, .junk, .junk, .junk, .junk, .junk, .junk, .junk, .junk, .junk, .junk, .junk, .junk, .junk, .junk, .junk, .junk, .junk, .junk, .junk, .junk, .junk, .junk, .junk, .junk, .junk, .junk, .junk, .junk, .junk, .junk, .junk, .junk, .junk, .junk, .junk, .junk, .junk, .junk, .junk, .junk, .junk, .junk, .junk, .junk, .junk, .junk, .junk, .junk, .junk, .junk, .junk, .junk, .junk, .junk, .junk, .junk, .junk, .junk, .junk, .junk, .junk, .junk, .junk, .junk, .junk, .junk]) _ _ ?hw trim_no ⟨_, IP + 1, JP - 1, rfl, by omega, hT2.symm, rfl⟩ ?_
        case hw =>
          repeat (first | exact weak_nil | refine weak_same ?_ | refine weak_junk ?_)
        rintro k hk ts m' ⟨d1, i1, j1, rfl, hij, hd, rfl⟩ R hR KK k1 k2 k3
        rw [Go.Sort.partLoop_eq] at hd
        obtain ⟨f11S, f12S, -, f14S⟩ := Go.Sort.scanUp_spec (fun x => Go.Sort.ltInt x d1[a]!) d1 j1 _ i1 rfl
        obtain ⟨f21S, f22S, -, f24S⟩ := Go.Sort.scanDown_spec (fun x => !Go.Sort.ltInt x d1[a]!) d1 (Go.Sort.scanUp (fun x => Go.Sort.ltInt x d1[a]!) d1 j1 i1) j1
        have f12S := f12S (by omega)
        generalize hIS : Go.Sort.scanUp (fun x => Go.Sort.ltInt x d1[a]!) d1 j1 i1 = IS at hd f11S f12S f14S f21S f22S f24S
        have f22S := f22S f12S
        generalize hJS : Go.Sort.scanDown (fun x => !Go.Sort.ltInt x d1[a]!) d1 IS j1 = JS at hd f21S f22S f24S
        have fneS : IS ≤ JS → IS ≠ JS := by
          intro h1 h2
          rw [← h2] at f24S
          have h3 := f14S (by omega)
          have h4 := f24S (Nat.le_refl _) (by omega)
          rw [h3] at h4
          simp at h4
        show AW _ _ _ _ _ _ _
        refine aw_block ?_
        refine aw_blk ?_
        refine aw_loop ?_
        refine loop_opq n (fun q ts M => ∃ i', M = rowM m i n r d1 ∧ (i' = i1 + q ∧ i' ≤ j1 + 1) ∧ Go.Sort.scanUp (fun x => Go.Sort.ltInt x d1[a]!) d1 j1 i' = IS ∧ ts = [.sl i [] 1 0 n c, AV.int a, AV.int b, AV.int pv, .junk, .junk, .junk, .junk, AV.int 0, AV.bool false, AV.int i', AV.int j1, .junk, .junk, .junk, .junk, .junk, .junk, .junk, .junk, .junk, .junk, .junk, .junk, .junk, .junk, .junk, .junk, .junk, .junk, .junk, .junk, .junk, .junk, .junk, .junk, .junk, .junk, .junk, .junk, .junk, .junk, .junk, .junk, .junk, .junk, .junk, .junk, .junk, .junk, .junk, .junk, .junk, .junk, .junk, .junk, .junk, .junk, .junk, .junk, .junk, .junk, .junk, .junk, .junk, .junk, .junk, .junk, .junk, .junk, .junk, .junk, .junk, .junk, .junk, .junk, .junk, .junk, .junk, .junk, .junk, .junk, .junk, .junk, .junk, .junk, .junk, .junk, .junk, .junk, .junk, .junk, .junk, .junk, .junk, .junk, .junk, .junk, .junk, .junk, .junk, .junk, .junk, .junk, .junk, .junk, .junk, .junk, .junk, .junk, .junk, .junk, .junk, .junk, .junk, .junk, .junk, .junk, .junk, .junk, .junk, .junk, .junk, .junk, .junk, .junk, .junk, .junk, .junk, .junk, .junk, .junk, .junk, .junk, .junk, .junk, .junk, .junk, .junk, .junk, .junk, .junk, .junk, .junk, .junk, .junk, .junk, .junk, .junk, .junk, .junk, .junk, .junk, .junk, .junk, .junk, .junk, .junk, .junk, .junk, .junk, .junk, .junk, .junk, .junk, .junk, .junk, .junk]) _ _ ?hwAS trim_no ⟨i1, rfl, by omega, hIS, rfl⟩ ?_
        case hwAS =>
          repeat (first | exact weak_nil | refine weak_same ?_ | refine weak_junk ?_)
        rintro qS hqS ts m' ⟨i', rfl, hi', hI', rfl⟩ RS hRS KKS aS bS cS
        show AW _ _ _ _ _ _ _
        have finS : ∀ x99 x100 x101 x102 x103 x104 x105 x106 x107 x108 x109 x110 x111 x112 x113 : AV, i' = IS → KKS (.exit 6) [.sl i [] 1 0 n c, AV.int a, AV.int b, AV.int pv, .junk, .junk, .junk, .junk, AV.int 0, AV.bool false, AV.int i', AV.int j1, .junk, .junk, .junk, .junk, .junk, .junk, .junk, .junk, .junk, .junk, .junk, .junk, .junk, .junk, .junk, .junk, .junk, .junk, .junk, .junk, .junk, .junk, .junk, .junk, .junk, .junk, .junk, .junk, .junk, .junk, .junk, .junk, .junk, .junk, .junk, .junk, .junk, .junk, .junk, .junk, .junk, .junk, .junk, .junk, .junk, .junk, .junk, .junk, .junk, .junk, .junk, .junk, .junk, .junk, .junk, .junk, .junk, .junk, .junk, .junk, .junk, .junk, .junk, .junk, .junk, .junk, .junk, .junk, .junk, .junk, .junk, .junk, .junk, .junk, .junk, .junk, .junk, .junk, .junk, .junk, .junk, .junk, .junk, .junk, .junk, .junk, .junk, x99, x100, x101, x102, x103, x104, x105, x106, x107, x108, x109, x110, x111, x112, x113, .junk, .junk, .junk, .junk, .junk, .junk, .junk, .junk, .junk, .junk, .junk, .junk, .junk, .junk, .junk, .junk, .junk, .junk, .junk, .junk, .junk, .junk, .junk, .junk, .junk, .junk, .junk, .junk, .junk, .junk, .junk, .junk, .junk, .junk, .junk, .junk, .junk, .junk, .junk, .junk, .junk, .junk, .junk, .junk, .junk, .junk, .junk, .junk, .junk, .junk, .junk, .junk, .junk, .junk] (rowM m i n r d1) := by
          intro x99 x100 x101 x102 x103 x104 x105 x106 x107 x108 x109 x110 x111 x112 x113 hII
          have hII := hII.symm
          subst hII
          refine cS 6 _ _ ?_
          conv => whnf
          repeat (first | (refine br.yes ?_; conv => whnf) | (refine br.no ?_; conv => whnf))
          refine aw_blk ?_
          refine aw_loop ?_
          refine loop_opq n (fun q ts M => ∃ j', M = rowM m i n r d1 ∧ (j' + q = j1 ∧ IS ≤ j' + 1) ∧ Go.Sort.scanDown (fun x => !Go.Sort.ltInt x d1[a]!) d1 IS j' = JS ∧ ts = [.sl i [] 1 0 n c, AV.int a, AV.int b, AV.int pv, .junk, .junk, .junk, .junk, AV.int 0, AV.bool false, AV.int IS, AV.int j', .junk, .junk, .junk, .junk, .junk, .junk, .junk, .junk, .junk, .junk, .junk, .junk, .junk, .junk, .junk, .junk, .junk, .junk, .junk, .junk, .junk, .junk, .junk, .junk, .junk, .junk, .junk, .junk, .junk, .junk, .junk, .junk, .junk, .junk, .junk, .junk, .junk, .junk, .junk, .junk, .junk, .junk, .junk, .junk, .junk, .junk, .junk, .junk, .junk, .junk, .junk, .junk, .junk, .junk, .junk, .junk, .junk, .junk, .junk, .junk, .junk, .junk, .junk, .junk, .junk, .junk, .junk, .junk, .junk, .junk, .junk, .junk, .junk, .junk, .junk, .junk, .junk, .junk, .junk, .junk, .junk, .junk, .junk, .junk, .junk, .junk, .junk, .junk, .junk, .junk, .junk, .junk, .junk, .junk, .junk, .junk, .junk, .junk, .junk, .junk, .junk, .junk, .junk, .junk, .junk, .junk, .junk, .junk, .junk, .junk, .junk, .junk, .junk, .junk, .junk, .junk, .junk, .junk, .junk, .junk, .junk, .junk, .junk, .junk, .junk, .junk, .junk, .junk, .junk, .junk, .junk, .junk, .junk, .junk, .junk, .junk, .junk, .junk, .junk, .junk, .junk, .junk, .junk, .junk, .junk, .junk, .junk, .junk, .junk, .junk, .junk, .junk, .junk, .junk, .junk, .junk]) _ _ ?hwCS trim_no ⟨j1, rfl, by omega, hJS, rfl⟩ ?_
          case hwCS =>
            repeat (first | exact weak_nil | refine weak_same ?_ | refine weak_junk ?_)
          rintro qS hqS ts m' ⟨j', rfl, hj', hJ', rfl⟩ QS hQS QQS uS vS wS
          show AW _ _ _ _ _ _ _
          have ginS : ∀ x115 x116 x117 x118 x119 x120 x121 x122 x123 x124 x125 x126 x127 x128 x129 : AV, j' = JS → QQS (.exit 8) [.sl i [] 1 0 n c, AV.int a, AV.int b, AV.int pv, .junk, .junk, .junk, .junk, AV.int 0, AV.bool false, AV.int IS, AV.int j', .junk, .junk, .junk, .junk, .junk, .junk, .junk, .junk, .junk, .junk, .junk, .junk, .junk, .junk, .junk, .junk, .junk, .junk, .junk, .junk, .junk, .junk, .junk, .junk, .junk, .junk, .junk, .junk, .junk, .junk, .junk, .junk, .junk, .junk, .junk, .junk, .junk, .junk, .junk, .junk, .junk, .junk, .junk, .junk, .junk, .junk, .junk, .junk, .junk, .junk, .junk, .junk, .junk, .junk, .junk, .junk, .junk, .junk, .junk, .junk, .junk, .junk, .junk, .junk, .junk, .junk, .junk, .junk, .junk, .junk, .junk, .junk, .junk, .junk, .junk, .junk, .junk, .junk, .junk, .junk, .junk, .junk, .junk, .junk, .junk, .junk, .junk, .junk, .junk, .junk, .junk, .junk, .junk, .junk, .junk, .junk, .junk, .junk, .junk, .junk, .junk, .junk, .junk, x115, x116, x117, x118, x119, x120, x121, x122, x123, x124, x125, x126, x127, x128, x129, .junk, .junk, .junk, .junk, .junk, .junk, .junk, .junk, .junk, .junk, .junk, .junk, .junk, .junk, .junk, .junk, .junk, .junk, .junk, .junk, .junk, .junk, .junk, .junk, .junk, .junk, .junk, .junk, .junk, .junk, .junk, .junk, .junk, .junk, .junk, .junk, .junk, .junk] (rowM m i n r d1) := by
            intro x115 x116 x117 x118 x119 x120 x121 x122 x123 x124 x125 x126 x127 x128 x129 hJJ
            have hJJ := hJJ.symm
            subst hJJ
            refine wS 8 _ _ ?_
            conv => whnf
            repeat (first | (refine br.yes ?_; conv => whnf) | (refine br.no ?_; conv => whnf))
            refine aw_assoc ?_
            refine AW.cut ?_
            conv => whnf
            repeat (first | (refine br.yes ?_; conv => whnf) | (refine br.no ?_; conv => whnf))
            rw [gtr_nat]
            refine AW.cut ?_
            conv => whnf
            repeat (first | (refine br.yes ?_; conv => whnf) | (refine br.no ?_; conv => whnf))
            refine br_intro (fun s1 => ?_) (fun s1 => ?_)
            · have s1' : IS > JS := by simpa using s1
              rw [if_pos s1'] at hd
              subst hd
              conv => whnf
              repeat (first | (refine br.yes ?_; conv => whnf) | (refine br.no ?_; conv => whnf))
              refine k3 4 _ _ ?_
              conv => whnf
              repeat (first | (refine br.yes ?_; conv => whnf) | (refine br.no ?_; conv => whnf))
              refine AW.cut ?_
              conv => whnf
              repeat (first | (refine br.yes ?_; conv => whnf) | (refine br.no ?_; conv => whnf))
              refine ⟨side_in ⟨by omega, by omega⟩, ?_⟩
              conv => whnf
              repeat (first | (refine br.yes ?_; conv => whnf) | (refine br.no ?_; conv => whnf))
              rw [row_get hi]
              conv => whnf
              repeat (first | (refine br.yes ?_; conv => whnf) | (refine br.no ?_; conv => whnf))
              refine ⟨side_in (at_lt (by omega)), ?_⟩
              rw [row_nth]
              conv => whnf
              repeat (first | (refine br.yes ?_; conv => whnf) | (refine br.no ?_; conv => whnf))
              refine ⟨side_in ⟨by omega, by omega⟩, ?_⟩
              conv => whnf
              repeat (first | (refine br.yes ?_; conv => whnf) | (refine br.no ?_; conv => whnf))
              rw [row_get hi]
              conv => whnf
              repeat (first | (refine br.yes ?_; conv => whnf) | (refine br.no ?_; conv => whnf))
              refine ⟨side_in (at_lt (by omega)), ?_⟩
              rw [row_nth]
              conv => whnf
              repeat (first | (refine br.yes ?_; conv => whnf) | (refine br.no ?_; conv => whnf))
              refine ⟨side_in ⟨by omega, by omega⟩, ?_⟩
              conv => whnf
              repeat (first | (refine br.yes ?_; conv => whnf) | (refine br.no ?_; conv => whnf))
              rw [row_get hi]
              conv => whnf
              repeat (first | (refine br.yes ?_; conv => whnf) | (refine br.no ?_; conv => whnf))
              refine ⟨side_in (at_lt (by omega)), ?_⟩
              conv => whnf
              repeat (first | (refine br.yes ?_; conv => whnf) | (refine br.no ?_; conv => whnf))
              rw [row_put]
              conv => whnf
              repeat (first | (refine br.yes ?_; conv => whnf) | (refine br.no ?_; conv => whnf))
              refine ⟨side_in ⟨by omega, by omega⟩, ?_⟩
              conv => whnf
              repeat (first | (refine br.yes ?_; conv => whnf) | (refine br.no ?_; conv => whnf))
              rw [row_get hi]
              conv => whnf
              repeat (first | (refine br.yes ?_; conv => whnf) | (refine br.no ?_; conv => whnf))
              refine ⟨side_in (at_lt (by omega)), ?_⟩
              conv => whnf
              repeat (first | (refine br.yes ?_; conv => whnf) | (refine br.no ?_; conv => whnf))
              rw [row_put]
              conv => whnf
              repeat (first | (refine br.yes ?_; conv => whnf) | (refine br.no ?_; conv => whnf))
              rw [swp_eq]
              conv => whnf
              repeat (first | (refine br.yes ?_; conv => whnf) | (refine br.no ?_; conv => whnf))
              refine AW.cut ?_
              conv => whnf
              repeat (first | (refine br.yes ?_; conv => whnf) | (refine br.no ?_; conv => whnf))
              refine AW.mk ?_
              conv => whnf
              repeat (first | (refine br.yes ?_; conv => whnf) | (refine br.no ?_; conv => whnf))
              exact hK
            · have s1' : ¬ IS > JS := by simpa using s1
              rw [if_neg s1'] at hd
              have fneS := fneS (by omega)
              conv => whnf
              repeat (first | (refine br.yes ?_; conv => whnf) | (refine br.no ?_; conv => whnf))
              refine AW.cut ?_
              conv => whnf
              repeat (first | (refine br.yes ?_; conv => whnf) | (refine br.no ?_; conv => whnf))
              refine ⟨side_in ⟨by omega, by omega⟩, ?_⟩
              conv => whnf
              repeat (first | (refine br.yes ?_; conv => whnf) | (refine br.no ?_; conv => whnf))
              rw [row_get hi]
              conv => whnf
              repeat (first | (refine br.yes ?_; conv => whnf) | (refine br.no ?_; conv => whnf))
              refine ⟨side_in (at_lt (by omega)), ?_⟩
              rw [row_nth]
              conv => whnf
              repeat (first | (refine br.yes ?_; conv => whnf) | (refine br.no ?_; conv => whnf))
              refine ⟨side_in ⟨by omega, by omega⟩, ?_⟩
              conv => whnf
              repeat (first | (refine br.yes ?_; conv => whnf) | (refine br.no ?_; conv => whnf))
              rw [row_get hi]
              conv => whnf
              repeat (first | (refine br.yes ?_; conv => whnf) | (refine br.no ?_; conv => whnf))
              refine ⟨side_in (at_lt (by omega)), ?_⟩
              rw [row_nth]
              conv => whnf
              repeat (first | (refine br.yes ?_; conv => whnf) | (refine br.no ?_; conv => whnf))
              refine ⟨side_in ⟨by omega, by omega⟩, ?_⟩
              conv => whnf
              repeat (first | (refine br.yes ?_; conv => whnf) | (refine br.no ?_; conv => whnf))
              rw [row_get hi]
              conv => whnf
              repeat (first | (refine br.yes ?_; conv => whnf) | (refine br.no ?_; conv => whnf))
              refine ⟨side_in (at_lt (by omega)), ?_⟩
              conv => whnf
              repeat (first | (refine br.yes ?_; conv => whnf) | (refine br.no ?_; conv => whnf))
              rw [row_put]
              conv => whnf
              repeat (first | (refine br.yes ?_; conv => whnf) | (refine br.no ?_; conv => whnf))
              refine ⟨side_in ⟨by omega, by omega⟩, ?_⟩
              conv => whnf
              repeat (first | (refine br.yes ?_; conv => whnf) | (refine br.no ?_; conv => whnf))
              rw [row_get hi]
              conv => whnf
              repeat (first | (refine br.yes ?_; conv => whnf) | (refine br.no ?_; conv => whnf))
              refine ⟨side_in (at_lt (by omega)), ?_⟩
              conv => whnf
              repeat (first | (refine br.yes ?_; conv => whnf) | (refine br.no ?_; conv => whnf))
              rw [row_put]
              conv => whnf
              repeat (first | (refine br.yes ?_; conv => whnf) | (refine br.no ?_; conv => whnf))
              rw [swp_eq]
              conv => whnf
              repeat (first | (refine br.yes ?_; conv => whnf) | (refine br.no ?_; conv => whnf))
              refine AW.cut ?_
              conv => whnf
              repeat (first | (refine br.yes ?_; conv => whnf) | (refine br.no ?_; conv => whnf))
              rw [add_one (by omega)]
              refine AW.mk ?_
              conv => whnf
              repeat (first | (refine br.yes ?_; conv => whnf) | (refine br.no ?_; conv => whnf))
              rw [sub_one (by omega) (by omega)]
              refine k1 _ _ (hR (by omega) _ _ _ _ ?hw3 trim_no ⟨_, IS + 1, JS - 1, rfl, by omega, hd, rfl⟩)
              case hw3 =>
                repeat (first | exact weak_nil | refine weak_same ?_ | refine weak_junk ?_)
          refine aw_assoc ?_
          refine AW.cut ?_
          conv => whnf
          repeat (first | (refine br.yes ?_; conv => whnf) | (refine br.no ?_; conv => whnf))
          rw [leq_nat]
          refine br_intro (fun g1 => ?_) (fun g1 => ?_)
          · have g1' : IS ≤ j' := by simpa using g1
            conv => whnf
            repeat (first | (refine br.yes ?_; conv => whnf) | (refine br.no ?_; conv => whnf))
            refine ⟨side_in ⟨by omega, by omega⟩, ?_⟩
            conv => whnf
            repeat (first | (refine br.yes ?_; conv => whnf) | (refine br.no ?_; conv => whnf))
            rw [row_get hi]
            conv => whnf
            repeat (first | (refine br.yes ?_; conv => whnf) | (refine br.no ?_; conv => whnf))
            refine ⟨side_in (at_lt (by omega)), ?_⟩
            rw [row_nth]
            conv => whnf
            repeat (first | (refine br.yes ?_; conv => whnf) | (refine br.no ?_; conv => whnf))
            refine ⟨side_in ⟨by omega, by omega⟩, ?_⟩
            conv => whnf
            repeat (first | (refine br.yes ?_; conv => whnf) | (refine br.no ?_; conv => whnf))
            rw [row_get hi]
            conv => whnf
            repeat (first | (refine br.yes ?_; conv => whnf) | (refine br.no ?_; conv => whnf))
            refine ⟨side_in (at_lt (by omega)), ?_⟩
            rw [row_nth]
            conv => whnf
            repeat (first | (refine br.yes ?_; conv => whnf) | (refine br.no ?_; conv => whnf))
            refine q_keep (AV.bool (Go.Sort.ltInt d1[j']! d1[a]!)) (fun K' h => c_Less h) ?_
            conv => whnf
            repeat (first | (refine br.yes ?_; conv => whnf) | (refine br.no ?_; conv => whnf))
            refine AW.cut ?_
            conv => whnf
            repeat (first | (refine br.yes ?_; conv => whnf) | (refine br.no ?_; conv => whnf))
            refine br_intro (fun g2 => ?_) (fun g2 => ?_)
            · have hl := notB_t g2
              conv => whnf
              repeat (first | (refine br.yes ?_; conv => whnf) | (refine br.no ?_; conv => whnf))
              refine aw_block ?_
              refine AW.mk ?_
              conv => whnf
              repeat (first | (refine br.yes ?_; conv => whnf) | (refine br.no ?_; conv => whnf))
              rw [sub_one (by omega) (by omega)]
              refine uS _ _ (hQS (by omega) _ _ _ _ ?hwDS trim_no ⟨j' - 1, rfl, by omega, (scanDown_go (by omega) g1' (by simp [hl])).symm.trans hJ', rfl⟩)
              case hwDS =>
                repeat (first | exact weak_nil | refine weak_same ?_ | refine weak_junk ?_)
            · have hl := notB_f g2
              conv => whnf
              repeat (first | (refine br.yes ?_; conv => whnf) | (refine br.no ?_; conv => whnf))
              exact ginS _ _ _ _ _ _ _ _ _ _ _ _ _ _ _ ((scanDown_stop (.inr (by simp [hl]))).symm.trans hJ')
          · have g1' : ¬ IS ≤ j' := by simpa using g1
            conv => whnf
            repeat (first | (refine br.yes ?_; conv => whnf) | (refine br.no ?_; conv => whnf))
            refine AW.cut ?_
            conv => whnf
            repeat (first | (refine br.yes ?_; conv => whnf) | (refine br.no ?_; conv => whnf))
            exact ginS _ _ _ _ _ _ _ _ _ _ _ _ _ _ _ ((scanDown_stop (.inl g1')).symm.trans hJ')
        refine aw_assoc ?_
        refine AW.cut ?_
        conv => whnf
        repeat (first | (refine br.yes ?_; conv => whnf) | (refine br.no ?_; conv => whnf))
        rw [leq_nat]
        refine br_intro (fun g1 => ?_) (fun g1 => ?_)
        · have g1' : i' ≤ j1 := by simpa using g1
          conv => whnf
          repeat (first | (refine br.yes ?_; conv => whnf) | (refine br.no ?_; conv => whnf))
          refine ⟨side_in ⟨by omega, by omega⟩, ?_⟩
          conv => whnf
          repeat (first | (refine br.yes ?_; conv => whnf) | (refine br.no ?_; conv => whnf))
          rw [row_get hi]
          conv => whnf
          repeat (first | (refine br.yes ?_; conv => whnf) | (refine br.no ?_; conv => whnf))
          refine ⟨side_in (at_lt (by omega)), ?_⟩
          rw [row_nth]
          conv => whnf
          repeat (first | (refine br.yes ?_; conv => whnf) | (refine br.no ?_; conv => whnf))
          refine ⟨side_in ⟨by omega, by omega⟩, ?_⟩
          conv => whnf
          repeat (first | (refine br.yes ?_; conv => whnf) | (refine br.no ?_; conv => whnf))
          rw [row_get hi]
          conv => whnf
          repeat (first | (refine br.yes ?_; conv => whnf) | (refine br.no ?_; conv => whnf))
          refine ⟨side_in (at_lt (by omega)), ?_⟩
          rw [row_nth]
          conv => whnf
          repeat (first | (refine br.yes ?_; conv => whnf) | (refine br.no ?_; conv => whnf))
          refine q_keep (AV.bool (Go.Sort.ltInt d1[i']! d1[a]!)) (fun K' h => c_Less h) ?_
          conv => whnf
          repeat (first | (refine br.yes ?_; conv => whnf) | (refine br.no ?_; conv => whnf))
          refine AW.cut ?_
          conv => whnf
          repeat (first | (refine br.yes ?_; conv => whnf) | (refine br.no ?_; conv => whnf))
          refine br_intro (fun g2 => ?_) (fun g2 => ?_)
          · conv => whnf
            repeat (first | (refine br.yes ?_; conv => whnf) | (refine br.no ?_; conv => whnf))
            refine aw_block ?_
            refine AW.mk ?_
            conv => whnf
            repeat (first | (refine br.yes ?_; conv => whnf) | (refine br.no ?_; conv => whnf))
            rw [add_one (by omega)]
            refine aS _ _ (hRS (by omega) _ _ _ _ ?hwBS trim_no ⟨i' + 1, rfl, by omega, (scanUp_go g1' g2).symm.trans hI', rfl⟩)
            case hwBS =>
              repeat (first | exact weak_nil | refine weak_same ?_ | refine weak_junk ?_)
          · conv => whnf
            repeat (first | (refine br.yes ?_; conv => whnf) | (refine br.no ?_; conv => whnf))
            exact finS _ _ _ _ _ _ _ _ _ _ _ _ _ _ _ ((scanUp_stop (p := fun x => Go.Sort.ltInt x d1[a]!) (.inr g2)).symm.trans hI')
        · have g1' : ¬ i' ≤ j1 := by simpa using g1
          conv => whnf
          repeat (first | (refine br.yes ?_; conv => whnf) | (refine br.no ?_; conv => whnf))
          refine AW.cut ?_
          conv => whnf
          repeat (first | (refine br.yes ?_; conv => whnf) | (refine br.no ?_; conv => whnf))
          exact finS _ _ _ _ _ _ _ _ _ _ _ _ _ _ _ ((scanUp_stop (.inl g1')).symm.trans hI')
    refine aw_assoc ?_
    refine AW.cut ?_
    conv => whnf
    repeat (first | (refine br.yes ?_; conv => whnf) | (refine br.no ?_; conv => whnf))
    rw [leq_nat]
    refine br_intro (fun g1 => ?_) (fun g1 => ?_)
    · have g1' : IP ≤ j' := by simpa using g1
      conv => whnf
      repeat (first | (refine br.yes ?_; conv => whnf) | (refine br.no ?_; conv => whnf))
      refine ⟨side_in ⟨by omega, by omega⟩, ?_⟩
      conv => whnf
      repeat (first | (refine br.yes ?_; conv => whnf) | (refine br.no ?_; conv => whnf))
      rw [row_get hi]
      conv => whnf
      repeat (first | (refine br.yes ?_; conv => whnf) | (refine br.no ?_; conv => whnf))
      refine ⟨side_in (at_lt (by omega)), ?_⟩
      rw [row_nth]
      conv => whnf
      repeat (first | (refine br.yes ?_; conv => whnf) | (refine br.no ?_; conv => whnf))
      refine ⟨side_in ⟨by omega, by omega⟩, ?_⟩
      conv => whnf
      repeat (first | (refine br.yes ?_; conv => whnf) | (refine br.no ?_; conv => whnf))
      rw [row_get hi]
      conv => whnf
      repeat (first | (refine br.yes ?_; conv => whnf) | (refine br.no ?_; conv => whnf))
      refine ⟨side_in (at_lt (by omega)), ?_⟩
      rw [row_nth]
      conv => whnf
      repeat (first | (refine br.yes ?_; conv => whnf) | (refine br.no ?_; conv => whnf))
      refine q_keep (AV.bool (Go.Sort.ltInt d0[j']! d0[a]!)) (fun K' h => c_Less h) ?_
      conv => whnf
      repeat (first | (refine br.yes ?_; conv => whnf) | (refine br.no ?_; conv => whnf))
      refine AW.cut ?_
      conv => whnf
      repeat (first | (refine br.yes ?_; conv => whnf) | (refine br.no ?_; conv => whnf))
      refine br_intro (fun g2 => ?_) (fun g2 => ?_)
      · have hl := notB_t g2
        conv => whnf
        repeat (first | (refine br.yes ?_; conv => whnf) | (refine br.no ?_; conv => whnf))
        refine aw_block ?_
        refine AW.mk ?_
        conv => whnf
        repeat (first | (refine br.yes ?_; conv => whnf) | (refine br.no ?_; conv => whnf))
        rw [sub_one (by omega) (by omega)]
        refine uP _ _ (hQP (by omega) _ _ _ _ ?hwDP trim_no ⟨j' - 1, rfl, by omega, (scanDown_go (by omega) g1' (by simp [hl])).symm.trans hJ', rfl⟩)
        case hwDP =>
          repeat (first | exact weak_nil | refine weak_same ?_ | refine weak_junk ?_)
      · have hl := notB_f g2
        conv => whnf
        repeat (first | (refine br.yes ?_; conv => whnf) | (refine br.no ?_; conv => whnf))
        exact ginP _ _ _ _ _ _ _ _ _ _ _ _ _ _ _ ((scanDown_stop (.inr (by simp [hl]))).symm.trans hJ')
    · have g1' : ¬ IP ≤ j' := by simpa using g1
      conv => whnf
      repeat (first | (refine br.yes ?_; conv => whnf) | (refine br.no ?_; conv => whnf))
      refine AW.cut ?_
      conv => whnf
      repeat (first | (refine br.yes ?_; conv => whnf) | (refine br.no ?_; conv => whnf))
      exact ginP _ _ _ _ _ _ _ _ _ _ _ _ _ _ _ ((scanDown_stop (.inl g1')).symm.trans hJ')
  refine aw_assoc ?_
  refine AW.cut ?_
  conv => whnf
  repeat (first | (refine br.yes ?_; conv => whnf) | (refine br.no ?_; conv => whnf))
  rw [leq_nat]
  refine br_intro (fun g1 => ?_) (fun g1 => ?_)
  · have g1' : i' ≤ bb := by simpa using g1
    conv => whnf
    repeat (first | (refine br.yes ?_; conv => whnf) | (refine br.no ?_; conv => whnf))
    refine ⟨side_in ⟨by omega, by omega⟩, ?_⟩
    conv => whnf
    repeat (first | (refine br.yes ?_; conv => whnf) | (refine br.no ?_; conv => whnf))
    rw [row_get hi]
    conv => whnf
    repeat (first | (refine br.yes ?_; conv => whnf) | (refine br.no ?_; conv => whnf))
    refine ⟨side_in (at_lt (by omega)), ?_⟩
    rw [row_nth]
    conv => whnf
    repeat (first | (refine br.yes ?_; conv => whnf) | (refine br.no ?_; conv => whnf))
    refine ⟨side_in ⟨by omega, by omega⟩, ?_⟩
    conv => whnf
    repeat (first | (refine br.yes ?_; conv => whnf) | (refine br.no ?_; conv => whnf))
    rw [row_get hi]
    conv => whnf
    repeat (first | (refine br.yes ?_; conv => whnf) | (refine br.no ?_; conv => whnf))
    refine ⟨side_in (at_lt (by omega)), ?_⟩
    rw [row_nth]
    conv => whnf
    repeat (first | (refine br.yes ?_; conv => whnf) | (refine br.no ?_; conv => whnf))
    refine q_keep (AV.bool (Go.Sort.ltInt d0[i']! d0[a]!)) (fun K' h => c_Less h) ?_
    conv => whnf
    repeat (first | (refine br.yes ?_; conv => whnf) | (refine br.no ?_; conv => whnf))
    refine AW.cut ?_
    conv => whnf
    repeat (first | (refine br.yes ?_; conv => whnf) | (refine br.no ?_; conv => whnf))
    refine br_intro (fun g2 => ?_) (fun g2 => ?_)
    · conv => whnf
      repeat (first | (refine br.yes ?_; conv => whnf) | (refine br.no ?_; conv => whnf))
      refine aw_block ?_
      refine AW.mk ?_
      conv => whnf
      repeat (first | (refine br.yes ?_; conv => whnf) | (refine br.no ?_; conv => whnf))
      rw [add_one (by omega)]
      refine aP _ _ (hRP (by omega) _ _ _ _ ?hwBP trim_no ⟨i' + 1, rfl, by omega, (scanUp_go g1' g2).symm.trans hI', rfl⟩)
      case hwBP =>
        repeat (first | exact weak_nil | refine weak_same ?_ | refine weak_junk ?_)
    · conv => whnf
      repeat (first | (refine br.yes ?_; conv => whnf) | (refine br.no ?_; conv => whnf))
      exact finP _ _ _ _ _ _ _ _ _ _ _ _ _ _ ((scanUp_stop (p := fun x => Go.Sort.ltInt x d0[a]!) (.inr g2)).symm.trans hI')
  · have g1' : ¬ i' ≤ bb := by simpa using g1
    conv => whnf
    repeat (first | (refine br.yes ?_; conv => whnf) | (refine br.no ?_; conv => whnf))
    refine AW.cut ?_
    conv => whnf
    repeat (first | (refine br.yes ?_; conv => whnf) | (refine br.no ?_; conv => whnf))
    exact finP _ _ _ _ _ _ _ _ _ _ _ _ _ _ ((scanUp_stop (.inl g1')).symm.trans hI')
/-! a few steps of insertion -/
theorem lss_c {a k : Nat} {c : Int} (hc : c = (k : Int)) : cmI .lss (a : Int) c = decide (a < k) := by rw [hc]; exact lss_nat
theorem eql_nat {a b : Nat} : cmI .eql (a : Int) (b : Int) = decide (a = b) := by rw [cmI_eql]; simp; exact Int.ofNat_inj
theorem shiftDown_go {d : Array Int} {j : Nat} (hj : 1 ≤ j) (h : Go.Sort.ltInt d[j]! d[j - 1]! = true) : Go.Sort.shiftDown Go.Sort.ltInt j d = Go.Sort.shiftDown Go.Sort.ltInt (j - 1) (Go.Sort.swp d j (j - 1)) := by
  obtain ⟨j, rfl⟩ : ∃ j', j = j' + 1 := ⟨j - 1, by omega⟩
  simp only [Nat.add_sub_cancel] at h
  rw [Go.Sort.shiftDown, if_neg (by rw [h]; simp)]
  rfl
theorem shiftDown_stop {d : Array Int} {j : Nat} (h : j = 0 ∨ Go.Sort.ltInt d[j]! d[j - 1]! = false) : Go.Sort.shiftDown Go.Sort.ltInt j d = d := by
  cases j with
  | zero => rfl
  | succ j =>
    rcases h with h | h
    · cases h
    · simp only [Nat.add_sub_cancel] at h
      rw [Go.Sort.shiftDown, if_pos (by rw [h]; rfl)]
theorem shiftUp_go {d : Array Int} {j b : Nat} (hj : j < b) (h : Go.Sort.ltInt d[j]! d[j - 1]! = true) : Go.Sort.shiftUp Go.Sort.ltInt b j d = Go.Sort.shiftUp Go.Sort.ltInt b (j + 1) (Go.Sort.swp d j (j - 1)) := by
  rw [Go.Sort.shiftUp, if_pos hj, if_neg (by rw [h]; simp)]
theorem shiftUp_stop {d : Array Int} {j b : Nat} (h : ¬ j < b ∨ Go.Sort.ltInt d[j]! d[j - 1]! = false) : Go.Sort.shiftUp Go.Sort.ltInt b j d = d := by
  rw [Go.Sort.shiftUp]
  rcases h with h | h
  · rw [if_neg h]
  · split
    · rw [if_pos (by rw [h]; rfl)]
    · rfl
theorem scanSorted_go {d : Array Int} {i b : Nat} (h1 : i < b) (h2 : Go.Sort.ltInt d[i]! d[i - 1]! = false) : Go.Sort.scanSorted Go.Sort.ltInt d b i = Go.Sort.scanSorted Go.Sort.ltInt d b (i + 1) := by
  rw [Go.Sort.scanSorted, if_pos (by simp [h1, h2])]
theorem scanSorted_stop {d : Array Int} {i b : Nat} (h : ¬ i < b ∨ Go.Sort.ltInt d[i]! d[i - 1]! = true) : Go.Sort.scanSorted Go.Sort.ltInt d b i = i := by
  rw [Go.Sort.scanSorted, if_neg]
  rcases h with h | h
  · simp [h]
  · simp [h]
set_option maxRecDepth 20000 in
set_option maxHeartbeats 6400000 in
theorem c_pins {a b n c r i : Nat} {e : Ent} {d : Array Int} (hi : getE m i = some e) (hn : n ≤ 400000) (hb : b ≤ n) (hab : a < b)
    (hK : K (AV.bool (Go.Sort.partialInsertionSort Go.Sort.ltInt d a b).2) (rowM m i n r (Go.Sort.partialInsertionSort Go.Sort.ltInt d a b).1)) : CallLeaf Try.prog w0 81 [.sl i [] 1 0 n c, AV.int a, AV.int b] (rowM m i n r d) K := by
  unfold Go.Sort.partialInsertionSort at hK
  obtain ⟨T, hT⟩ : ∃ T, T = Go.Sort.partialIns Go.Sort.ltInt a b 5 (a + 1) d := ⟨_, rfl⟩
  rw [← hT] at hK
  refine fn_cut hmix h81 ?_
  conv => whnf
  repeat (first | (refine br.yes ?_; conv => whnf) | (refine br.no ?_; conv => whnf))
  refine AW.cut ?_
  conv => whnf
  repeat (first | (refine br.yes ?_; conv => whnf) | (refine br.no ?_; conv => whnf))
  refine AW.cut ?_
  conv => whnf
  repeat (first | (refine br.yes ?_; conv => whnf) | (refine br.no ?_; conv => whnf))
  rw [add_one (by omega)]
  refine aw_assoc ?_
  refine AW.cut ?_
  conv => whnf
  repeat (first | (refine br.yes ?_; conv => whnf) | (refine br.no ?_; conv => whnf))
  refine aw_blk ?_
  refine aw_loop ?_
  refine loop_opq 5 (fun k ts M => ∃ d1 i1, M = rowM m i n r d1 ∧ (a < i1 ∧ i1 ≤ b) ∧ Go.Sort.partialIns Go.Sort.ltInt a b (5 - k) i1 d1 = T ∧ ts = [.sl i [] 1 0 n c, AV.int a, AV.int b, .junk, .junk, .junk, AV.bool false, AV.int i1, AV.int k, .junk, .junk, .junk, .junk, .junk, .junk, .junk, .junk, .junk, .junk, .junk, .junk, .junk, .junk, .junk, .junk, .junk, .junk, .junk, .junk, .junk, .junk, .junk, .junk, .junk, .junk, .junk, .junk, .junk, .junk, .junk, .junk, .junk, .junk, .junk, .junk, .junk, .junk, .junk, .junk, .junk, .junk, .junk, .junk, .junk, .junk, .junk, .junk, .junk, .junk, .junk, .junk, .junk, .junk, .junk, .junk, .junk, .junk, .junk, .junk, .junk, .junk, .junk, .junk, .junk, .junk, .junk, .junk, .junk, .junk, .junk, .junk, .junk, .junk, .junk, .junk, .junk, .junk, .junk, .junk, .junk, .junk, .junk, .junk, .junk, .junk, .junk, .junk, .junk, .junk, .junk, .junk, .junk, .junk, .junk, .junk, .junk, .junk, .junk, .junk, .junk, .junk, .junk, .junk, .junk, .junk, .junk, .junk, .junk, .junk, .junk, .junk, .junk, .junk, .junk, .junk, .junk, .junk, .junk, .junk, .junk, .junk, .junk, .junk]) _ _ ?hw trim_no ⟨_, a + 1, rfl, by omega, hT.symm, rfl⟩ ?_
  case hw =>
    repeat (first | exact weak_nil | refine weak_same ?_ | refine weak_junk ?_)
  rintro k hk ts m' ⟨d1, i1, rfl, hij, hd, rfl⟩ R hR KK k1 k2 k3
  show AW _ _ _ _ _ _ _
  refine aw_assoc ?_
  refine AW.cut ?_
  conv => whnf
  repeat (first | (refine br.yes ?_; conv => whnf) | (refine br.no ?_; conv => whnf))
  rw [lss_c (k := 5) (c := 5) rfl]
  refine AW.cut ?_
  conv => whnf
  repeat (first | (refine br.yes ?_; conv => whnf) | (refine br.no ?_; conv => whnf))
  refine br_intro (fun h1 => ?_) (fun h1 => ?_)
  · have h1' : k < 5 := by simpa using h1
    rw [show 5 - k = (5 - (k + 1)) + 1 by omega, Go.Sort.partialIns] at hd
    simp only at hd
    generalize hI : Go.Sort.scanSorted Go.Sort.ltInt d1 b i1 = I2 at hd
    conv => whnf
    repeat (first | (refine br.yes ?_; conv => whnf) | (refine br.no ?_; conv => whnf))
    refine aw_blk ?_
    refine aw_blk ?_
    refine aw_loop ?_
    refine loop_opq n (fun q ts M => ∃ i', M = rowM m i n r d1 ∧ (i' = i1 + q ∧ i' ≤ b) ∧ Go.Sort.scanSorted Go.Sort.ltInt d1 b i' = I2 ∧ ts = [.sl i [] 1 0 n c, AV.int a, AV.int b, .junk, .junk, .junk, AV.bool false, AV.int i', AV.int k, .junk, .junk, .junk, .junk, .junk, .junk, .junk, .junk, .junk, .junk, .junk, .junk, .junk, .junk, .junk, .junk, .junk, .junk, .junk, .junk, .junk, .junk, .junk, .junk, .junk, .junk, .junk, .junk, .junk, .junk, .junk, .junk, .junk, .junk, .junk, .junk, .junk, .junk, .junk, .junk, .junk, .junk, .junk, .junk, .junk, .junk, .junk, .junk, .junk, .junk, .junk, .junk, .junk, .junk, .junk, .junk, .junk, .junk, .junk, .junk, .junk, .junk, .junk, .junk, .junk, .junk, .junk, .junk, .junk, .junk, .junk, .junk, .junk, .junk, .junk, .junk, .junk, .junk, .junk, .junk, .junk, .junk, .junk, .junk, .junk, .junk, .junk, .junk, .junk, .junk, .junk, .junk, .junk, .junk, .junk, .junk, .junk, .junk, .junk, .junk, .junk, .junk, .junk, .junk, .junk, .junk, .junk, .junk, .junk, .junk, .junk, .junk, .junk, .junk, .junk, .junk, .junk, .junk, .junk, .junk, .junk, .junk, .junk, .junk]) _ _ ?hwS trim_no ⟨i1, rfl, by omega, hI, rfl⟩ ?_
    case hwS =>
      repeat (first | exact weak_nil | refine weak_same ?_ | refine weak_junk ?_)
    rintro q hq ts m' ⟨i', rfl, hi', hI', rfl⟩ R1 hR1 KK1 a1 a2 a3
    show AW _ _ _ _ _ _ _
    have fin1 : ∀ x17 x18 x19 x20 x21 x22 x23 x24 x25 x26 x27 x28 x29 x30 x31 x32 : AV, i' = I2 → KK1 (.exit 2) [.sl i [] 1 0 n c, AV.int a, AV.int b, .junk, .junk, .junk, AV.bool false, AV.int i', AV.int k, .junk, .junk, .junk, .junk, .junk, .junk, .junk, .junk, x17, x18, x19, x20, x21, x22, x23, x24, x25, x26, x27, x28, x29, x30, x31, x32, .junk, .junk, .junk, .junk, .junk, .junk, .junk, .junk, .junk, .junk, .junk, .junk, .junk, .junk, .junk, .junk, .junk, .junk, .junk, .junk, .junk, .junk, .junk, .junk, .junk, .junk, .junk, .junk, .junk, .junk, .junk, .junk, .junk, .junk, .junk, .junk, .junk, .junk, .junk, .junk, .junk, .junk, .junk, .junk, .junk, .junk, .junk, .junk, .junk, .junk, .junk, .junk, .junk, .junk, .junk, .junk, .junk, .junk, .junk, .junk, .junk, .junk, .junk, .junk, .junk, .junk, .junk, .junk, .junk, .junk, .junk, .junk, .junk, .junk, .junk, .junk, .junk, .junk, .junk, .junk, .junk, .junk, .junk, .junk, .junk, .junk, .junk, .junk, .junk, .junk, .junk, .junk, .junk, .junk, .junk, .junk, .junk, .junk, .junk, .junk] (rowM m i n r d1) := by
      intro x17 x18 x19 x20 x21 x22 x23 x24 x25 x26 x27 x28 x29 x30 x31 x32 hII
      have hII := hII.symm
      subst hII
      refine a3 2 _ _ ?_
      conv => whnf
      repeat (first | (refine br.yes ?_; conv => whnf) | (refine br.no ?_; conv => whnf))
      refine aw_assoc ?_
      refine AW.cut ?_
      conv => whnf
      repeat (first | (refine br.yes ?_; conv => whnf) | (refine br.no ?_; conv => whnf))
      rw [eql_nat]
      refine AW.cut ?_
      conv => whnf
      repeat (first | (refine br.yes ?_; conv => whnf) | (refine br.no ?_; conv => whnf))
      refine br_intro (fun s1 => ?_) (fun s1 => ?_)
      · have s1' : I2 = b := by simpa using s1
        rw [if_pos s1'] at hd
        subst hd
        conv => whnf
        repeat (first | (refine br.yes ?_; conv => whnf) | (refine br.no ?_; conv => whnf))
        refine k2 _ _ ?_
        conv => whnf
        repeat (first | (refine br.yes ?_; conv => whnf) | (refine br.no ?_; conv => whnf))
        exact hK
      · have s1' : ¬ I2 = b := by simpa using s1
        rw [if_neg s1'] at hd
        conv => whnf
        repeat (first | (refine br.yes ?_; conv => whnf) | (refine br.no ?_; conv => whnf))
        refine aw_assoc ?_
        refine AW.cut ?_
        conv => whnf
        repeat (first | (refine br.yes ?_; conv => whnf) | (refine br.no ?_; conv => whnf))
        rw [sub_nat_i (by omega) (by omega), lss_c (k := 50) (c := 50) rfl]
        refine AW.cut ?_
        conv => whnf
        repeat (first | (refine br.yes ?_; conv => whnf) | (refine br.no ?_; conv => whnf))
        refine br_intro (fun s2 => ?_) (fun s2 => ?_)
        · have s2' : b - a < 50 := by simpa using s2
          rw [if_pos s2'] at hd
          subst hd
          conv => whnf
          repeat (first | (refine br.yes ?_; conv => whnf) | (refine br.no ?_; conv => whnf))
          refine k2 _ _ ?_
          conv => whnf
          repeat (first | (refine br.yes ?_; conv => whnf) | (refine br.no ?_; conv => whnf))
          exact hK
        · have s2' : ¬ b - a < 50 := by simpa using s2
          rw [if_neg s2'] at hd
          conv => whnf
          repeat (first | (refine br.yes ?_; conv => whnf) | (refine br.no ?_; conv => whnf))
          refine AW.cut ?_
          conv => whnf
          repeat (first | (refine br.yes ?_; conv => whnf) | (refine br.no ?_; conv => whnf))
          rw [sub_one (by omega) (by omega)]
          refine ⟨side_in ⟨by omega, by omega⟩, ?_⟩
          conv => whnf
          repeat (first | (refine br.yes ?_; conv => whnf) | (refine br.no ?_; conv => whnf))
          rw [row_get hi]
          conv => whnf
          repeat (first | (refine br.yes ?_; conv => whnf) | (refine br.no ?_; conv => whnf))
          refine ⟨side_in (at_lt (by omega)), ?_⟩
          rw [row_nth]
          conv => whnf
          repeat (first | (refine br.yes ?_; conv => whnf) | (refine br.no ?_; conv => whnf))
          refine ⟨side_in ⟨by omega, by omega⟩, ?_⟩
          conv => whnf
          repeat (first | (refine br.yes ?_; conv => whnf) | (refine br.no ?_; conv => whnf))
          rw [row_get hi]
          conv => whnf
          repeat (first | (refine br.yes ?_; conv => whnf) | (refine br.no ?_; conv => whnf))
          refine ⟨side_in (at_lt (by omega)), ?_⟩
          rw [row_nth]
          conv => whnf
          repeat (first | (refine br.yes ?_; conv => whnf) | (refine br.no ?_; conv => whnf))
          refine ⟨side_in ⟨by omega, by omega⟩, ?_⟩
          conv => whnf
          repeat (first | (refine br.yes ?_; conv => whnf) | (refine br.no ?_; conv => whnf))
          rw [row_get hi]
          conv => whnf
          repeat (first | (refine br.yes ?_; conv => whnf) | (refine br.no ?_; conv => whnf))
          refine ⟨side_in (at_lt (by omega)), ?_⟩
          conv => whnf
          repeat (first | (refine br.yes ?_; conv => whnf) | (refine br.no ?_; conv => whnf))
          rw [row_put]
          conv => whnf
          repeat (first | (refine br.yes ?_; conv => whnf) | (refine br.no ?_; conv => whnf))
          refine ⟨side_in ⟨by omega, by omega⟩, ?_⟩
          conv => whnf
          repeat (first | (refine br.yes ?_; conv => whnf) | (refine br.no ?_; conv => whnf))
          rw [row_get hi]
          conv => whnf
          repeat (first | (refine br.yes ?_; conv => whnf) | (refine br.no ?_; conv => whnf))
          refine ⟨side_in (at_lt (by omega)), ?_⟩
          conv => whnf
          repeat (first | (refine br.yes ?_; conv => whnf) | (refine br.no ?_; conv => whnf))
          rw [row_put]
          conv => whnf
          repeat (first | (refine br.yes ?_; conv => whnf) | (refine br.no ?_; conv => whnf))
          rw [swp_eq]
          conv => whnf
          repeat (first | (refine br.yes ?_; conv => whnf) | (refine br.no ?_; conv => whnf))
          generalize Go.Sort.swp d1 I2 (I2 - 1) = D2 at hd ⊢
          refine aw_assoc ?_
          refine AW.cut ?_
          conv => whnf
          repeat (first | (refine br.yes ?_; conv => whnf) | (refine br.no ?_; conv => whnf))
          rw [sub_nat_i (by omega) (by omega), geq_c (k := 2) (c := 2) rfl]
          refine AW.cut ?_
          conv => whnf
          repeat (first | (refine br.yes ?_; conv => whnf) | (refine br.no ?_; conv => whnf))
          refine br_intro (fun s3 => ?_) (fun s3 => ?_)
          · have s3' : I2 - a ≥ 2 := by simpa using s3
            rw [if_pos s3'] at hd
            conv => whnf
            repeat (first | (refine br.yes ?_; conv => whnf) | (refine br.no ?_; conv => whnf))
            rw [sub_one (by omega) (by omega)]
            conv => whnf
            repeat (first | (refine br.yes ?_; conv => whnf) | (refine br.no ?_; conv => whnf))
            refine loop_cut ?_
            generalize hD3 : Go.Sort.shiftDown Go.Sort.ltInt (I2 - 1) D2 = D3 at hd
            refine loop_opq n (fun q ts M => ∃ d2 j, M = rowM m i n r d2 ∧ (j + q = I2 - 1) ∧ Go.Sort.shiftDown Go.Sort.ltInt j d2 = D3 ∧ ts = [.sl i [] 1 0 n c, AV.int a, AV.int b, .junk, .junk, .junk, AV.bool false, AV.int I2, AV.int k, AV.int j, .junk, .junk, .junk, .junk, .junk, .junk, .junk, .junk, .junk, .junk, .junk, .junk, .junk, .junk, .junk, .junk, .junk, .junk, .junk, .junk, .junk, .junk, .junk, .junk, .junk, .junk, .junk, .junk, .junk, .junk, .junk, .junk, .junk, .junk, .junk, .junk, .junk, .junk, .junk, .junk, .junk, .junk, .junk, .junk, .junk, .junk, .junk, .junk, .junk, .junk, .junk, .junk, .junk, .junk, .junk, .junk, .junk, .junk, .junk, .junk, .junk, .junk, .junk, .junk, .junk, .junk, .junk, .junk, .junk, .junk, .junk, .junk, .junk, .junk, .junk, .junk, .junk, .junk, .junk, .junk, .junk, .junk, .junk, .junk, .junk, .junk, .junk, .junk, .junk, .junk, .junk, .junk, .junk, .junk, .junk, .junk, .junk, .junk, .junk, .junk, .junk, .junk, .junk, .junk, .junk, .junk, .junk, .junk, .junk, .junk, .junk, .junk, .junk, .junk, .junk, .junk, .junk, .junk, .junk, .junk, .junk, .junk, .junk]) _ _ ?hwD trim_no ⟨_, I2 - 1, rfl, by omega, hD3, rfl⟩ ?_
            case hwD =>
              repeat (first | exact weak_nil | refine weak_same ?_ | refine weak_junk ?_)
            rintro q hq ts m' ⟨d2, j, rfl, hj, hd2, rfl⟩ R2 hR2 KK2 b1 b2 b3
            show AW _ _ _ _ _ _ _
            have fin2 : ∀ x64 x65 x66 x67 x68 x69 x70 x71 x72 x73 x74 x75 x76 x77 x78 x79 x80 x81 x82 x83 x84 x85 x86 x87 x88 x89 x90 x91 x92 x93 x94 : AV, d2 = D3 → KK2 (.exit 4) [.sl i [] 1 0 n c, AV.int a, AV.int b, .junk, .junk, .junk, AV.bool false, AV.int I2, AV.int k, AV.int j, .junk, .junk, .junk, .junk, .junk, .junk, .junk, .junk, .junk, .junk, .junk, .junk, .junk, .junk, .junk, .junk, .junk, .junk, .junk, .junk, .junk, .junk, .junk, .junk, .junk, .junk, .junk, .junk, .junk, .junk, .junk, .junk, .junk, .junk, .junk, .junk, .junk, .junk, .junk, .junk, .junk, .junk, .junk, .junk, .junk, .junk, .junk, .junk, .junk, .junk, .junk, .junk, .junk, .junk, x64, x65, x66, x67, x68, x69, x70, x71, x72, x73, x74, x75, x76, x77, x78, x79, x80, x81, x82, x83, x84, x85, x86, x87, x88, x89, x90, x91, x92, x93, x94, .junk, .junk, .junk, .junk, .junk, .junk, .junk, .junk, .junk, .junk, .junk, .junk, .junk, .junk, .junk, .junk, .junk, .junk, .junk, .junk, .junk, .junk, .junk, .junk, .junk, .junk, .junk, .junk, .junk, .junk, .junk, .junk, .junk, .junk, .junk, .junk, .junk, .junk] (rowM m i n r d2) := by
              intro x64 x65 x66 x67 x68 x69 x70 x71 x72 x73 x74 x75 x76 x77 x78 x79 x80 x81 x82 x83 x84 x85 x86 x87 x88 x89 x90 x91 x92 x93 x94 hII
              subst hII
              refine b3 4 _ _ ?_
              conv => whnf
              repeat (first | (refine br.yes ?_; conv => whnf) | (refine br.no ?_; conv => whnf))
              refine AW.cut ?_
              conv => whnf
              repeat (first | (refine br.yes ?_; conv => whnf) | (refine br.no ?_; conv => whnf))
              rw [sub_nat_i (by omega) (by omega), geq_c (k := 2) (c := 2) rfl]
              refine AW.cond ?_
              conv => whnf
              repeat (first | (refine br.yes ?_; conv => whnf) | (refine br.no ?_; conv => whnf))
              refine br_intro (fun v1 => ?_) (fun v1 => ?_)
              · have v1' : b - I2 ≥ 2 := by simpa using v1
                rw [if_pos v1'] at hd
                refine AW.cut ?_
                conv => whnf
                repeat (first | (refine br.yes ?_; conv => whnf) | (refine br.no ?_; conv => whnf))
                rw [add_one (by omega)]
                refine aw_block ?_
                refine aw_loop ?_
                generalize hD4 : Go.Sort.shiftUp Go.Sort.ltInt b (I2 + 1) d2 = D4 at hd
                refine loop_opq n (fun q ts M => ∃ d3 j, M = rowM m i n r d3 ∧ (j = I2 + 1 + q ∧ j ≤ b) ∧ Go.Sort.shiftUp Go.Sort.ltInt b j d3 = D4 ∧ ts = [.sl i [] 1 0 n c, AV.int a, AV.int b, .junk, .junk, .junk, AV.bool false, AV.int I2, AV.int k, .junk, AV.int j, .junk, .junk, .junk, .junk, .junk, .junk, .junk, .junk, .junk, .junk, .junk, .junk, .junk, .junk, .junk, .junk, .junk, .junk, .junk, .junk, .junk, .junk, .junk, .junk, .junk, .junk, .junk, .junk, .junk, .junk, .junk, .junk, .junk, .junk, .junk, .junk, .junk, .junk, .junk, .junk, .junk, .junk, .junk, .junk, .junk, .junk, .junk, .junk, .junk, .junk, .junk, .junk, .junk, .junk, .junk, .junk, .junk, .junk, .junk, .junk, .junk, .junk, .junk, .junk, .junk, .junk, .junk, .junk, .junk, .junk, .junk, .junk, .junk, .junk, .junk, .junk, .junk, .junk, .junk, .junk, .junk, .junk, .junk, .junk, .junk, .junk, .junk, .junk, .junk, .junk, .junk, .junk, .junk, .junk, .junk, .junk, .junk, .junk, .junk, .junk, .junk, .junk, .junk, .junk, .junk, .junk, .junk, .junk, .junk, .junk, .junk, .junk, .junk, .junk, .junk, .junk, .junk, .junk, .junk, .junk, .junk, .junk]) _ _ ?hwUA trim_no ⟨_, I2 + 1, rfl, by omega, hD4, rfl⟩ ?_
                case hwUA =>
                  repeat (first | exact weak_nil | refine weak_same ?_ | refine weak_junk ?_)
                rintro q hq ts m' ⟨d3, j, rfl, hj, hd3, rfl⟩ R3 hR3 KK3 u1 u2 u3
                show AW _ _ _ _ _ _ _
                have fin3 : ∀ x101 x102 x103 x104 x105 x106 x107 x108 x109 x110 x111 x112 x113 x114 x115 x116 x117 x118 x119 x120 x121 x122 x123 x124 x125 x126 x127 x128 x129 x130 x131 x132 : AV, d3 = D4 → KK3 (.exit 6) [.sl i [] 1 0 n c, AV.int a, AV.int b, .junk, .junk, .junk, AV.bool false, AV.int I2, AV.int k, .junk, AV.int j, .junk, .junk, .junk, .junk, .junk, .junk, .junk, .junk, .junk, .junk, .junk, .junk, .junk, .junk, .junk, .junk, .junk, .junk, .junk, .junk, .junk, .junk, .junk, .junk, .junk, .junk, .junk, .junk, .junk, .junk, .junk, .junk, .junk, .junk, .junk, .junk, .junk, .junk, .junk, .junk, .junk, .junk, .junk, .junk, .junk, .junk, .junk, .junk, .junk, .junk, .junk, .junk, .junk, .junk, .junk, .junk, .junk, .junk, .junk, .junk, .junk, .junk, .junk, .junk, .junk, .junk, .junk, .junk, .junk, .junk, .junk, .junk, .junk, .junk, .junk, .junk, .junk, .junk, .junk, .junk, .junk, .junk, .junk, .junk, .junk, .junk, .junk, .junk, .junk, .junk, x101, x102, x103, x104, x105, x106, x107, x108, x109, x110, x111, x112, x113, x114, x115, x116, x117, x118, x119, x120, x121, x122, x123, x124, x125, x126, x127, x128, x129, x130, x131, x132] (rowM m i n r d3) := by
                  intro x101 x102 x103 x104 x105 x106 x107 x108 x109 x110 x111 x112 x113 x114 x115 x116 x117 x118 x119 x120 x121 x122 x123 x124 x125 x126 x127 x128 x129 x130 x131 x132 hII
                  subst hII
                  refine u3 6 _ _ ?_
                  conv => whnf
                  repeat (first | (refine br.yes ?_; conv => whnf) | (refine br.no ?_; conv => whnf))
                  refine AW.mk ?_
                  conv => whnf
                  repeat (first | (refine br.yes ?_; conv => whnf) | (refine br.no ?_; conv => whnf))
                  rw [add_one (by omega)]
                  refine k1 _ _ (hR (by omega) _ _ _ _ ?hwRAa trim_no ⟨_, I2, rfl, by omega, hd, rfl⟩)
                  case hwRAa =>
                    repeat (first | exact weak_nil | refine weak_same ?_ | refine weak_junk ?_)
                refine aw_assoc ?_
                refine AW.cut ?_
                conv => whnf
                repeat (first | (refine br.yes ?_; conv => whnf) | (refine br.no ?_; conv => whnf))
                rw [lss_nat]
                refine AW.cut ?_
                conv => whnf
                repeat (first | (refine br.yes ?_; conv => whnf) | (refine br.no ?_; conv => whnf))
                refine br_intro (fun t1 => ?_) (fun t1 => ?_)
                · have t1' : j < b := by simpa using t1
                  conv => whnf
                  repeat (first | (refine br.yes ?_; conv => whnf) | (refine br.no ?_; conv => whnf))
                  refine aw_blk ?_
                  refine aw_assoc ?_
                  refine AW.cut ?_
                  conv => whnf
                  repeat (first | (refine br.yes ?_; conv => whnf) | (refine br.no ?_; conv => whnf))
                  refine ⟨side_in ⟨by omega, by omega⟩, ?_⟩
                  conv => whnf
                  repeat (first | (refine br.yes ?_; conv => whnf) | (refine br.no ?_; conv => whnf))
                  rw [row_get hi]
                  conv => whnf
                  repeat (first | (refine br.yes ?_; conv => whnf) | (refine br.no ?_; conv => whnf))
                  refine ⟨side_in (at_lt (by omega)), ?_⟩
                  rw [row_nth]
                  conv => whnf
                  repeat (first | (refine br.yes ?_; conv => whnf) | (refine br.no ?_; conv => whnf))
                  rw [sub_one (by omega) (by omega)]
                  refine ⟨side_in ⟨by omega, by omega⟩, ?_⟩
                  conv => whnf
                  repeat (first | (refine br.yes ?_; conv => whnf) | (refine br.no ?_; conv => whnf))
                  rw [row_get hi]
                  conv => whnf
                  repeat (first | (refine br.yes ?_; conv => whnf) | (refine br.no ?_; conv => whnf))
                  refine ⟨side_in (at_lt (by omega)), ?_⟩
                  rw [row_nth]
                  conv => whnf
                  repeat (first | (refine br.yes ?_; conv => whnf) | (refine br.no ?_; conv => whnf))
                  refine q_keep (AV.bool (Go.Sort.ltInt d3[j]! d3[j - 1]!)) (fun K' h => c_Less h) ?_
                  conv => whnf
                  repeat (first | (refine br.yes ?_; conv => whnf) | (refine br.no ?_; conv => whnf))
                  refine AW.cut ?_
                  conv => whnf
                  repeat (first | (refine br.yes ?_; conv => whnf) | (refine br.no ?_; conv => whnf))
                  refine br_intro (fun t2 => ?_) (fun t2 => ?_)
                  · have hl := notB_t t2
                    conv => whnf
                    repeat (first | (refine br.yes ?_; conv => whnf) | (refine br.no ?_; conv => whnf))
                    exact fin3 _ _ _ _ _ _ _ _ _ _ _ _ _ _ _ _ _ _ _ _ _ _ _ _ _ _ _ _ _ _ _ _ ((shiftUp_stop (.inr hl)).symm.trans hd3)
                  · have hl := notB_f t2
                    conv => whnf
                    repeat (first | (refine br.yes ?_; conv => whnf) | (refine br.no ?_; conv => whnf))
                    refine AW.mk ?_
                    conv => whnf
                    repeat (first | (refine br.yes ?_; conv => whnf) | (refine br.no ?_; conv => whnf))
                    rw [sub_one (by omega) (by omega)]
                    refine ⟨side_in ⟨by omega, by omega⟩, ?_⟩
                    conv => whnf
                    repeat (first | (refine br.yes ?_; conv => whnf) | (refine br.no ?_; conv => whnf))
                    rw [row_get hi]
                    conv => whnf
                    repeat (first | (refine br.yes ?_; conv => whnf) | (refine br.no ?_; conv => whnf))
                    refine ⟨side_in (at_lt (by omega)), ?_⟩
                    rw [row_nth]
                    conv => whnf
                    repeat (first | (refine br.yes ?_; conv => whnf) | (refine br.no ?_; conv => whnf))
                    refine ⟨side_in ⟨by omega, by omega⟩, ?_⟩
                    conv => whnf
                    repeat (first | (refine br.yes ?_; conv => whnf) | (refine br.no ?_; conv => whnf))
                    rw [row_get hi]
                    conv => whnf
                    repeat (first | (refine br.yes ?_; conv => whnf) | (refine br.no ?_; conv => whnf))
                    refine ⟨side_in (at_lt (by omega)), ?_⟩
                    rw [row_nth]
                    conv => whnf
                    repeat (first | (refine br.yes ?_; conv => whnf) | (refine br.no ?_; conv => whnf))
                    refine ⟨side_in ⟨by omega, by omega⟩, ?_⟩
                    conv => whnf
                    repeat (first | (refine br.yes ?_; conv => whnf) | (refine br.no ?_; conv => whnf))
                    rw [row_get hi]
                    conv => whnf
                    repeat (first | (refine br.yes ?_; conv => whnf) | (refine br.no ?_; conv => whnf))
                    refine ⟨side_in (at_lt (by omega)), ?_⟩
                    conv => whnf
                    repeat (first | (refine br.yes ?_; conv => whnf) | (refine br.no ?_; conv => whnf))
                    rw [row_put]
                    conv => whnf
                    repeat (first | (refine br.yes ?_; conv => whnf) | (refine br.no ?_; conv => whnf))
                    refine ⟨side_in ⟨by omega, by omega⟩, ?_⟩
                    conv => whnf
                    repeat (first | (refine br.yes ?_; conv => whnf) | (refine br.no ?_; conv => whnf))
                    rw [row_get hi]
                    conv => whnf
                    repeat (first | (refine br.yes ?_; conv => whnf) | (refine br.no ?_; conv => whnf))
                    refine ⟨side_in (at_lt (by omega)), ?_⟩
                    conv => whnf
                    repeat (first | (refine br.yes ?_; conv => whnf) | (refine br.no ?_; conv => whnf))
                    rw [row_put]
                    conv => whnf
                    repeat (first | (refine br.yes ?_; conv => whnf) | (refine br.no ?_; conv => whnf))
                    rw [swp_eq]
                    conv => whnf
                    repeat (first | (refine br.yes ?_; conv => whnf) | (refine br.no ?_; conv => whnf))
                    refine AW.mk ?_
                    conv => whnf
                    repeat (first | (refine br.yes ?_; conv => whnf) | (refine br.no ?_; conv => whnf))
                    rw [add_one (by omega)]
                    refine u1 _ _ (hR3 (by omega) _ _ _ _ ?hwVA trim_no ⟨_, j + 1, rfl, by omega, (shiftUp_go t1' hl).symm.trans hd3, rfl⟩)
                    case hwVA =>
                      repeat (first | exact weak_nil | refine weak_same ?_ | refine weak_junk ?_)
                · have t1' : ¬ j < b := by simpa using t1
                  conv => whnf
                  repeat (first | (refine br.yes ?_; conv => whnf) | (refine br.no ?_; conv => whnf))
                  exact fin3 _ _ _ _ _ _ _ _ _ _ _ _ _ _ _ _ _ _ _ _ _ _ _ _ _ _ _ _ _ _ _ _ ((shiftUp_stop (.inl t1')).symm.trans hd3)
              · have v1' : ¬ b - I2 ≥ 2 := by simpa using v1
                rw [if_neg v1'] at hd
                refine AW.mk ?_
                conv => whnf
                repeat (first | (refine br.yes ?_; conv => whnf) | (refine br.no ?_; conv => whnf))
                refine AW.mk ?_
                conv => whnf
                repeat (first | (refine br.yes ?_; conv => whnf) | (refine br.no ?_; conv => whnf))
                rw [add_one (by omega)]
                refine k1 _ _ (hR (by omega) _ _ _ _ ?hwRAb trim_no ⟨_, I2, rfl, by omega, hd, rfl⟩)
                case hwRAb =>
                  repeat (first | exact weak_nil | refine weak_same ?_ | refine weak_junk ?_)
            refine aw_assoc ?_
            refine AW.cut ?_
            conv => whnf
            repeat (first | (refine br.yes ?_; conv => whnf) | (refine br.no ?_; conv => whnf))
            rw [geq_c (k := 1) (c := 1) rfl]
            refine AW.cut ?_
            conv => whnf
            repeat (first | (refine br.yes ?_; conv => whnf) | (refine br.no ?_; conv => whnf))
            refine br_intro (fun t1 => ?_) (fun t1 => ?_)
            · have t1' : 1 ≤ j := by simpa using t1
              conv => whnf
              repeat (first | (refine br.yes ?_; conv => whnf) | (refine br.no ?_; conv => whnf))
              refine aw_blk ?_
              refine aw_assoc ?_
              refine AW.cut ?_
              conv => whnf
              repeat (first | (refine br.yes ?_; conv => whnf) | (refine br.no ?_; conv => whnf))
              refine ⟨side_in ⟨by omega, by omega⟩, ?_⟩
              conv => whnf
              repeat (first | (refine br.yes ?_; conv => whnf) | (refine br.no ?_; conv => whnf))
              rw [row_get hi]
              conv => whnf
              repeat (first | (refine br.yes ?_; conv => whnf) | (refine br.no ?_; conv => whnf))
              refine ⟨side_in (at_lt (by omega)), ?_⟩
              rw [row_nth]
              conv => whnf
              repeat (first | (refine br.yes ?_; conv => whnf) | (refine br.no ?_; conv => whnf))
              rw [sub_one (by omega) (by omega)]
              refine ⟨side_in ⟨by omega, by omega⟩, ?_⟩
              conv => whnf
              repeat (first | (refine br.yes ?_; conv => whnf) | (refine br.no ?_; conv => whnf))
              rw [row_get hi]
              conv => whnf
              repeat (first | (refine br.yes ?_; conv => whnf) | (refine br.no ?_; conv => whnf))
              refine ⟨side_in (at_lt (by omega)), ?_⟩
              rw [row_nth]
              conv => whnf
              repeat (first | (refine br.yes ?_; conv => whnf) | (refine br.no ?_; conv => whnf))
              refine q_keep (AV.bool (Go.Sort.ltInt d2[j]! d2[j - 1]!)) (fun K' h => c_Less h) ?_
              conv => whnf
              repeat (first | (refine br.yes ?_; conv => whnf) | (refine br.no ?_; conv => whnf))
              refine AW.cut ?_
              conv => whnf
              repeat (first | (refine br.yes ?_; conv => whnf) | (refine br.no ?_; conv => whnf))
              refine br_intro (fun t2 => ?_) (fun t2 => ?_)
              · have hl := notB_t t2
                conv => whnf
                repeat (first | (refine br.yes ?_; conv => whnf) | (refine br.no ?_; conv => whnf))
                exact fin2 _ _ _ _ _ _ _ _ _ _ _ _ _ _ _ _ _ _ _ _ _ _ _ _ _ _ _ _ _ _ _ ((shiftDown_stop (.inr hl)).symm.trans hd2)
              · have hl := notB_f t2
                conv => whnf
                repeat (first | (refine br.yes ?_; conv => whnf) | (refine br.no ?_; conv => whnf))
                refine AW.mk ?_
                conv => whnf
                repeat (first | (refine br.yes ?_; conv => whnf) | (refine br.no ?_; conv => whnf))
                rw [sub_one (by omega) (by omega)]
                refine ⟨side_in ⟨by omega, by omega⟩, ?_⟩
                conv => whnf
                repeat (first | (refine br.yes ?_; conv => whnf) | (refine br.no ?_; conv => whnf))
                rw [row_get hi]
                conv => whnf
                repeat (first | (refine br.yes ?_; conv => whnf) | (refine br.no ?_; conv => whnf))
                refine ⟨side_in (at_lt (by omega)), ?_⟩
                rw [row_nth]
                conv => whnf
                repeat (first | (refine br.yes ?_; conv => whnf) | (refine br.no ?_; conv => whnf))
                refine ⟨side_in ⟨by omega, by omega⟩, ?_⟩
                conv => whnf
                repeat (first | (refine br.yes ?_; conv => whnf) | (refine br.no ?_; conv => whnf))
                rw [row_get hi]
                conv => whnf
                repeat (first | (refine br.yes ?_; conv => whnf) | (refine br.no ?_; conv => whnf))
                refine ⟨side_in (at_lt (by omega)), ?_⟩
                rw [row_nth]
                conv => whnf
                repeat (first | (refine br.yes ?_; conv => whnf) | (refine br.no ?_; conv => whnf))
                refine ⟨side_in ⟨by omega, by omega⟩, ?_⟩
                conv => whnf
                repeat (first | (refine br.yes ?_; conv => whnf) | (refine br.no ?_; conv => whnf))
                rw [row_get hi]
                conv => whnf
                repeat (first | (refine br.yes ?_; conv => whnf) | (refine br.no ?_; conv => whnf))
                refine ⟨side_in (at_lt (by omega)), ?_⟩
                conv => whnf
                repeat (first | (refine br.yes ?_; conv => whnf) | (refine br.no ?_; conv => whnf))
                rw [row_put]
                conv => whnf
                repeat (first | (refine br.yes ?_; conv => whnf) | (refine br.no ?_; conv => whnf))
                refine ⟨side_in ⟨by omega, by omega⟩, ?_⟩
                conv => whnf
                repeat (first | (refine br.yes ?_; conv => whnf) | (refine br.no ?_; conv => whnf))
                rw [row_get hi]
                conv => whnf
                repeat (first | (refine br.yes ?_; conv => whnf) | (refine br.no ?_; conv => whnf))
                refine ⟨side_in (at_lt (by omega)), ?_⟩
                conv => whnf
                repeat (first | (refine br.yes ?_; conv => whnf) | (refine br.no ?_; conv => whnf))
                rw [row_put]
                conv => whnf
                repeat (first | (refine br.yes ?_; conv => whnf) | (refine br.no ?_; conv => whnf))
                rw [swp_eq]
                conv => whnf
                repeat (first | (refine br.yes ?_; conv => whnf) | (refine br.no ?_; conv => whnf))
                refine AW.mk ?_
                conv => whnf
                repeat (first | (refine br.yes ?_; conv => whnf) | (refine br.no ?_; conv => whnf))
                rw [sub_one (by omega) (by omega)]
                refine b1 _ _ (hR2 (by omega) _ _ _ _ ?hwE trim_no ⟨_, j - 1, rfl, by omega, (shiftDown_go t1' hl).symm.trans hd2, rfl⟩)
                case hwE =>
                  repeat (first | exact weak_nil | refine weak_same ?_ | refine weak_junk ?_)
            · have t1' : ¬ 1 ≤ j := by simpa using t1
              conv => whnf
              repeat (first | (refine br.yes ?_; conv => whnf) | (refine br.no ?_; conv => whnf))
              exact fin2 _ _ _ _ _ _ _ _ _ _ _ _ _ _ _ _ _ _ _ _ _ _ _ _ _ _ _ _ _ _ _ ((shiftDown_stop (.inl (by omega))).symm.trans hd2)
          · have s3' : ¬ I2 - a ≥ 2 := by simpa using s3
            rw [if_neg s3'] at hd
            conv => whnf
            repeat (first | (refine br.yes ?_; conv => whnf) | (refine br.no ?_; conv => whnf))
            refine AW.cut ?_
            conv => whnf
            repeat (first | (refine br.yes ?_; conv => whnf) | (refine br.no ?_; conv => whnf))
            rw [sub_nat_i (by omega) (by omega), geq_c (k := 2) (c := 2) rfl]
            refine AW.cond ?_
            conv => whnf
            repeat (first | (refine br.yes ?_; conv => whnf) | (refine br.no ?_; conv => whnf))
            refine br_intro (fun v1 => ?_) (fun v1 => ?_)
            · have v1' : b - I2 ≥ 2 := by simpa using v1
              rw [if_pos v1'] at hd
              refine AW.cut ?_
              conv => whnf
              repeat (first | (refine br.yes ?_; conv => whnf) | (refine br.no ?_; conv => whnf))
              rw [add_one (by omega)]
              refine aw_block ?_
              refine aw_loop ?_
              generalize hD4 : Go.Sort.shiftUp Go.Sort.ltInt b (I2 + 1) D2 = D4 at hd
              refine loop_opq n (fun q ts M => ∃ d3 j, M = rowM m i n r d3 ∧ (j = I2 + 1 + q ∧ j ≤ b) ∧ Go.Sort.shiftUp Go.Sort.ltInt b j d3 = D4 ∧ ts = [.sl i [] 1 0 n c, AV.int a, AV.int b, .junk, .junk, .junk, AV.bool false, AV.int I2, AV.int k, .junk, AV.int j, .junk, .junk, .junk, .junk, .junk, .junk, .junk, .junk, .junk, .junk, .junk, .junk, .junk, .junk, .junk, .junk, .junk, .junk, .junk, .junk, .junk, .junk, .junk, .junk, .junk, .junk, .junk, .junk, .junk, .junk, .junk, .junk, .junk, .junk, .junk, .junk, .junk, .junk, .junk, .junk, .junk, .junk, .junk, .junk, .junk, .junk, .junk, .junk, .junk, .junk, .junk, .junk, .junk, .junk, .junk, .junk, .junk, .junk, .junk, .junk, .junk, .junk, .junk, .junk, .junk, .junk, .junk, .junk, .junk, .junk, .junk, .junk, .junk, .junk, .junk, .junk, .junk, .junk, .junk, .junk, .junk, .junk, .junk, .junk, .junk, .junk, .junk, .junk, .junk, .junk, .junk, .junk, .junk, .junk, .junk, .junk, .junk, .junk, .junk, .junk, .junk, .junk, .junk, .junk, .junk, .junk, .junk, .junk, .junk, .junk, .junk, .junk, .junk, .junk, .junk, .junk, .junk, .junk, .junk, .junk, .junk, .junk]) _ _ ?hwUB trim_no ⟨_, I2 + 1, rfl, by omega, hD4, rfl⟩ ?_
              case hwUB =>
                repeat (first | exact weak_nil | refine weak_same ?_ | refine weak_junk ?_)
              rintro q hq ts m' ⟨d3, j, rfl, hj, hd3, rfl⟩ R3 hR3 KK3 u1 u2 u3
              show AW _ _ _ _ _ _ _
              have fin3 : ∀ x101 x102 x103 x104 x105 x106 x107 x108 x109 x110 x111 x112 x113 x114 x115 x116 x117 x118 x119 x120 x121 x122 x123 x124 x125 x126 x127 x128 x129 x130 x131 x132 : AV, d3 = D4 → KK3 (.exit 6) [.sl i [] 1 0 n c, AV.int a, AV.int b, .junk, .junk, .junk, AV.bool false, AV.int I2, AV.int k, .junk, AV.int j, .junk, .junk, .junk, .junk, .junk, .junk, .junk, .junk, .junk, .junk, .junk, .junk, .junk, .junk, .junk, .junk, .junk, .junk, .junk, .junk, .junk, .junk, .junk, .junk, .junk, .junk, .junk, .junk, .junk, .junk, .junk, .junk, .junk, .junk, .junk, .junk, .junk, .junk, .junk, .junk, .junk, .junk, .junk, .junk, .junk, .junk, .junk, .junk, .junk, .junk, .junk, .junk, .junk, .junk, .junk, .junk, .junk, .junk, .junk, .junk, .junk, .junk, .junk, .junk, .junk, .junk, .junk, .junk, .junk, .junk, .junk, .junk, .junk, .junk, .junk, .junk, .junk, .junk, .junk, .junk, .junk, .junk, .junk, .junk, .junk, .junk, .junk, .junk, .junk, .junk, x101, x102, x103, x104, x105, x106, x107, x108, x109, x110, x111, x112, x113, x114, x115, x116, x117, x118, x119, x120, x121, x122, x123, x124, x125, x126, x127, x128, x129, x130, x131, x132] (rowM m i n r d3) := by
                intro x101 x102 x103 x104 x105 x106 x107 x108 x109 x110 x111 x112 x113 x114 x115 x116 x117 x118 x119 x120 x121 x122 x123 x124 x125 x126 x127 x128 x129 x130 x131 x132 hII
                subst hII
                refine u3 6 _ _ ?_
                conv => whnf
                repeat (first | (refine br.yes ?_; conv => whnf) | (refine br.no ?_; conv => whnf))
                refine AW.mk ?_
                conv => whnf
                repeat (first | (refine br.yes ?_; conv => whnf) | (refine br.no ?_; conv => whnf))
                rw [add_one (by omega)]
                refine k1 _ _ (hR (by omega) _ _ _ _ ?hwRBa trim_no ⟨_, I2, rfl, by omega, hd, rfl⟩)
                case hwRBa =>
                  repeat (first | exact weak_nil | refine weak_same ?_ | refine weak_junk ?_)
              refine aw_assoc ?_
              refine AW.cut ?_
              conv => whnf
              repeat (first | (refine br.yes ?_; conv => whnf) | (refine br.no ?_; conv => whnf))
              rw [lss_nat]
              refine AW.cut ?_
              conv => whnf
              repeat (first | (refine br.yes ?_; conv => whnf) | (refine br.no ?_; conv => whnf))
              refine br_intro (fun t1 => ?_) (fun t1 => ?_)
              · have t1' : j < b := by simpa using t1
                conv => whnf
                repeat (first | (refine br.yes ?_; conv => whnf) | (refine br.no ?_; conv => whnf))
                refine aw_blk ?_
                refine aw_assoc ?_
                refine AW.cut ?_
                conv => whnf
                repeat (first | (refine br.yes ?_; conv => whnf) | (refine br.no ?_; conv => whnf))
                refine ⟨side_in ⟨by omega, by omega⟩, ?_⟩
                conv => whnf
                repeat (first | (refine br.yes ?_; conv => whnf) | (refine br.no ?_; conv => whnf))
                rw [row_get hi]
                conv => whnf
                repeat (first | (refine br.yes ?_; conv => whnf) | (refine br.no ?_; conv => whnf))
                refine ⟨side_in (at_lt (by omega)), ?_⟩
                rw [row_nth]
                conv => whnf
                repeat (first | (refine br.yes ?_; conv => whnf) | (refine br.no ?_; conv => whnf))
                rw [sub_one (by omega) (by omega)]
                refine ⟨side_in ⟨by omega, by omega⟩, ?_⟩
                conv => whnf
                repeat (first | (refine br.yes ?_; conv => whnf) | (refine br.no ?_; conv => whnf))
                rw [row_get hi]
                conv => whnf
                repeat (first | (refine br.yes ?_; conv => whnf) | (refine br.no ?_; conv => whnf))
                refine ⟨side_in (at_lt (by omega)), ?_⟩
                rw [row_nth]
                conv => whnf
                repeat (first | (refine br.yes ?_; conv => whnf) | (refine br.no ?_; conv => whnf))
                refine q_keep (AV.bool (Go.Sort.ltInt d3[j]! d3[j - 1]!)) (fun K' h => c_Less h) ?_
                conv => whnf
                repeat (first | (refine br.yes ?_; conv => whnf) | (refine br.no ?_; conv => whnf))
                refine AW.cut ?_
                conv => whnf
                repeat (first | (refine br.yes ?_; conv => whnf) | (refine br.no ?_; conv => whnf))
                refine br_intro (fun t2 => ?_) (fun t2 => ?_)
                · have hl := notB_t t2
                  conv => whnf
                  repeat (first | (refine br.yes ?_; conv => whnf) | (refine br.no ?_; conv => whnf))
                  exact fin3 _ _ _ _ _ _ _ _ _ _ _ _ _ _ _ _ _ _ _ _ _ _ _ _ _ _ _ _ _ _ _ _ ((shiftUp_stop (.inr hl)).symm.trans hd3)
                · have hl := notB_f t2
                  conv => whnf
                  repeat (first | (refine br.yes ?_; conv => whnf) | (refine br.no ?_; conv => whnf))
                  refine AW.mk ?_
                  conv => whnf
                  repeat (first | (refine br.yes ?_; conv => whnf) | (refine br.no ?_; conv => whnf))
                  rw [sub_one (by omega) (by omega)]
                  refine ⟨side_in ⟨by omega, by omega⟩, ?_⟩
                  conv => whnf
                  repeat (first | (refine br.yes ?_; conv => whnf) | (refine br.no ?_; conv => whnf))
                  rw [row_get hi]
                  conv => whnf
                  repeat (first | (refine br.yes ?_; conv => whnf) | (refine br.no ?_; conv => whnf))
                  refine ⟨side_in (at_lt (by omega)), ?_⟩
                  rw [row_nth]
                  conv => whnf
                  repeat (first | (refine br.yes ?_; conv => whnf) | (refine br.no ?_; conv => whnf))
                  refine ⟨side_in ⟨by omega, by omega⟩, ?_⟩
                  conv => whnf
                  repeat (first | (refine br.yes ?_; conv => whnf) | (refine br.no ?_; conv => whnf))
                  rw [row_get hi]
                  conv => whnf
                  repeat (first | (refine br.yes ?_; conv => whnf) | (refine br.no ?_; conv => whnf))
                  refine ⟨side_in (at_lt (by omega)), ?_⟩
                  rw [row_nth]
                  conv => whnf
                  repeat (first | (refine br.yes ?_; conv => whnf) | (refine br.no ?_; conv => whnf))
                  refine ⟨side_in ⟨by omega, by omega⟩, ?_⟩
                  conv => whnf
                  repeat (first | (refine br.yes ?_; conv => whnf) | (refine br.no ?_; conv => whnf))
                  rw [row_get hi]
                  conv => whnf
                  repeat (first | (refine br.yes ?_; conv => whnf) | (refine br.no ?_; conv => whnf))
                  refine ⟨side_in (at_lt (by omega)), ?_⟩
                  conv => whnf
                  repeat (first | (refine br.yes ?_; conv => whnf) | (refine br.no ?_; conv => whnf))
                  rw [row_put]
                  conv => whnf
                  repeat (first | (refine br.yes ?_; conv => whnf) | (refine br.no ?_; conv => whnf))
                  refine ⟨side_in ⟨by omega, by omega⟩, ?_⟩
                  conv => whnf
                  repeat (first | (refine br.yes ?_; conv => whnf) | (refine br.no ?_; conv => whnf))
                  rw [row_get hi]
                  conv => whnf
                  repeat (first | (refine br.yes ?_; conv => whnf) | (refine br.no ?_; conv => whnf))
                  refine ⟨side_in (at_lt (by omega)), ?_⟩
                  conv => whnf
                  repeat (first | (refine br.yes ?_; conv => whnf) | (refine br.no ?_; conv => whnf))
                  rw [row_put]
                  conv => whnf
                  repeat (first | (refine br.yes ?_; conv => whnf) | (refine br.no ?_; conv => whnf))
                  rw [swp_eq]
                  conv => whnf
                  repeat (first | (refine br.yes ?_; conv => whnf) | (refine br.no ?_; conv => whnf))
                  refine AW.mk ?_
                  conv => whnf
                  repeat (first | (refine br.yes ?_; conv => whnf) | (refine br.no ?_; conv => whnf))
                  rw [add_one (by omega)]
                  refine u1 _ _ (hR3 (by omega) _ _ _ _ ?hwVB trim_no ⟨_, j + 1, rfl, by omega, (shiftUp_go t1' hl).symm.trans hd3, rfl⟩)
                  case hwVB =>
                    repeat (first | exact weak_nil | refine weak_same ?_ | refine weak_junk ?_)
              · have t1' : ¬ j < b := by simpa using t1
                conv => whnf
                repeat (first | (refine br.yes ?_; conv => whnf) | (refine br.no ?_; conv => whnf))
                exact fin3 _ _ _ _ _ _ _ _ _ _ _ _ _ _ _ _ _ _ _ _ _ _ _ _ _ _ _ _ _ _ _ _ ((shiftUp_stop (.inl t1')).symm.trans hd3)
            · have v1' : ¬ b - I2 ≥ 2 := by simpa using v1
              rw [if_neg v1'] at hd
              refine AW.mk ?_
              conv => whnf
              repeat (first | (refine br.yes ?_; conv => whnf) | (refine br.no ?_; conv => whnf))
              refine AW.mk ?_
              conv => whnf
              repeat (first | (refine br.yes ?_; conv => whnf) | (refine br.no ?_; conv => whnf))
              rw [add_one (by omega)]
              refine k1 _ _ (hR (by omega) _ _ _ _ ?hwRBb trim_no ⟨_, I2, rfl, by omega, hd, rfl⟩)
              case hwRBb =>
                repeat (first | exact weak_nil | refine weak_same ?_ | refine weak_junk ?_)
    refine aw_assoc ?_
    refine AW.cut ?_
    conv => whnf
    repeat (first | (refine br.yes ?_; conv => whnf) | (refine br.no ?_; conv => whnf))
    rw [lss_nat]
    refine br_intro (fun g1 => ?_) (fun g1 => ?_)
    · have g1' : i' < b := by simpa using g1
      conv => whnf
      repeat (first | (refine br.yes ?_; conv => whnf) | (refine br.no ?_; conv => whnf))
      refine ⟨side_in ⟨by omega, by omega⟩, ?_⟩
      conv => whnf
      repeat (first | (refine br.yes ?_; conv => whnf) | (refine br.no ?_; conv => whnf))
      rw [row_get hi]
      conv => whnf
      repeat (first | (refine br.yes ?_; conv => whnf) | (refine br.no ?_; conv => whnf))
      refine ⟨side_in (at_lt (by omega)), ?_⟩
      rw [row_nth]
      conv => whnf
      repeat (first | (refine br.yes ?_; conv => whnf) | (refine br.no ?_; conv => whnf))
      rw [sub_one (by omega) (by omega)]
      refine ⟨side_in ⟨by omega, by omega⟩, ?_⟩
      conv => whnf
      repeat (first | (refine br.yes ?_; conv => whnf) | (refine br.no ?_; conv => whnf))
      rw [row_get hi]
      conv => whnf
      repeat (first | (refine br.yes ?_; conv => whnf) | (refine br.no ?_; conv => whnf))
      refine ⟨side_in (at_lt (by omega)), ?_⟩
      rw [row_nth]
      conv => whnf
      repeat (first | (refine br.yes ?_; conv => whnf) | (refine br.no ?_; conv => whnf))
      refine q_keep (AV.bool (Go.Sort.ltInt d1[i']! d1[i' - 1]!)) (fun K' h => c_Less h) ?_
      conv => whnf
      repeat (first | (refine br.yes ?_; conv => whnf) | (refine br.no ?_; conv => whnf))
      refine AW.cut ?_
      conv => whnf
      repeat (first | (refine br.yes ?_; conv => whnf) | (refine br.no ?_; conv => whnf))
      refine br_intro (fun g2 => ?_) (fun g2 => ?_)
      · have hl := notB_t g2
        conv => whnf
        repeat (first | (refine br.yes ?_; conv => whnf) | (refine br.no ?_; conv => whnf))
        refine aw_block ?_
        refine AW.mk ?_
        conv => whnf
        repeat (first | (refine br.yes ?_; conv => whnf) | (refine br.no ?_; conv => whnf))
        rw [add_one (by omega)]
        refine a1 _ _ (hR1 (by omega) _ _ _ _ ?hwT trim_no ⟨i' + 1, rfl, by omega, (scanSorted_go g1' hl).symm.trans hI', rfl⟩)
        case hwT =>
          repeat (first | exact weak_nil | refine weak_same ?_ | refine weak_junk ?_)
      · have hl := notB_f g2
        conv => whnf
        repeat (first | (refine br.yes ?_; conv => whnf) | (refine br.no ?_; conv => whnf))
        exact fin1 _ _ _ _ _ _ _ _ _ _ _ _ _ _ _ _ ((scanSorted_stop (.inr hl)).symm.trans hI')
    · have g1' : ¬ i' < b := by simpa using g1
      conv => whnf
      repeat (first | (refine br.yes ?_; conv => whnf) | (refine br.no ?_; conv => whnf))
      refine AW.cut ?_
      conv => whnf
      repeat (first | (refine br.yes ?_; conv => whnf) | (refine br.no ?_; conv => whnf))
      exact fin1 _ _ _ _ _ _ _ _ _ _ _ _ _ _ _ _ ((scanSorted_stop (.inl g1')).symm.trans hI')
  · have h1' : k = 5 := by simp at h1; omega
    subst h1'
    have hd : (d1, false) = T := hd
    subst hd
    conv => whnf
    repeat (first | (refine br.yes ?_; conv => whnf) | (refine br.no ?_; conv => whnf))
    refine k3 0 _ _ ?_
    conv => whnf
    repeat (first | (refine br.yes ?_; conv => whnf) | (refine br.no ?_; conv => whnf))
    refine AW.cut ?_
    conv => whnf
    repeat (first | (refine br.yes ?_; conv => whnf) | (refine br.no ?_; conv => whnf))
    refine AW.mk ?_
    conv => whnf
    repeat (first | (refine br.yes ?_; conv => whnf) | (refine br.no ?_; conv => whnf))
    exact hK
/-! the sort's own recursion, in parts -/
theorem partLoop_range {a : Nat} : ∀ (N i j : Nat) (d : Array Int), j + 1 - i ≤ N → a < i → i ≤ j + 1 → a ≤ (Go.Sort.partLoop Go.Sort.ltInt a i j d).1 ∧ (Go.Sort.partLoop Go.Sort.ltInt a i j d).1 ≤ j := by
  intro N
  induction N with
  | zero =>
    intro i j d hN ha hij
    rw [Go.Sort.partLoop_eq, scanUp_stop (by omega), scanDown_stop (by omega), if_pos (by omega)]
    simp only
    omega
  | succ N ih =>
    intro i j d hN ha hij
    rw [Go.Sort.partLoop_eq]
    obtain ⟨f11, f12, -, f14⟩ := Go.Sort.scanUp_spec (fun x => Go.Sort.ltInt x d[a]!) d j _ i rfl
    obtain ⟨f21, f22, -, f24⟩ := Go.Sort.scanDown_spec (fun x => !Go.Sort.ltInt x d[a]!) d (Go.Sort.scanUp (fun x => Go.Sort.ltInt x d[a]!) d j i) j
    have f12 := f12 (by omega)
    generalize Go.Sort.scanUp (fun x => Go.Sort.ltInt x d[a]!) d j i = I at f11 f12 f14 f21 f22 f24 ⊢
    have f22 := f22 f12
    generalize Go.Sort.scanDown (fun x => !Go.Sort.ltInt x d[a]!) d I j = J at f21 f22 f24 ⊢
    split
    · simp only; omega
    · rename_i hg
      have hne : I ≠ J := by
        intro h2
        rw [← h2] at f24
        have h3 := f14 (by omega)
        have h4 := f24 (Nat.le_refl _) (by omega)
        rw [h3] at h4
        simp at h4
      have := ih (I + 1) (J - 1) (Go.Sort.swp d I J) (by omega) (by omega) (by omega)
      omega
theorem partEqLoop_range {a : Nat} : ∀ (N i j : Nat) (d : Array Int), j + 1 - i ≤ N → a < i → i ≤ j + 1 → a < (Go.Sort.partEqLoop Go.Sort.ltInt a i j d).1 ∧ (Go.Sort.partEqLoop Go.Sort.ltInt a i j d).1 ≤ j + 1 := by
  intro N
  induction N with
  | zero =>
    intro i j d hN ha hij
    rw [Go.Sort.partEqLoop_eq, scanUp_stop (by omega), scanDown_stop (by omega), if_pos (by omega)]
    simp only
    omega
  | succ N ih =>
    intro i j d hN ha hij
    rw [Go.Sort.partEqLoop_eq]
    obtain ⟨f11, f12, -, f14⟩ := Go.Sort.scanUp_spec (fun x => !Go.Sort.ltInt d[a]! x) d j _ i rfl
    obtain ⟨f21, f22, -, f24⟩ := Go.Sort.scanDown_spec (fun x => Go.Sort.ltInt d[a]! x) d (Go.Sort.scanUp (fun x => !Go.Sort.ltInt d[a]! x) d j i) j
    have f12 := f12 (by omega)
    generalize Go.Sort.scanUp (fun x => !Go.Sort.ltInt d[a]! x) d j i = I at f11 f12 f14 f21 f22 f24 ⊢
    have f22 := f22 f12
    generalize Go.Sort.scanDown (fun x => Go.Sort.ltInt d[a]! x) d I j = J at f21 f22 f24 ⊢
    split
    · simp only; omega
    · rename_i hg
      have hne : I ≠ J := by
        intro h2
        subst h2
        have h3 := f14 (by omega)
        have h4 := f24 (by omega) (by omega)
        rw [h4] at h3
        simp at h3
      have := ih (I + 1) (J - 1) (Go.Sort.swp d I J) (by omega) (by omega) (by omega)
      omega
theorem part_range {a b pv : Nat} {d : Array Int} (hab : a < b) : a ≤ (Go.Sort.partition Go.Sort.ltInt d a b pv).1 ∧ (Go.Sort.partition Go.Sort.ltInt d a b pv).1 < b := by
  rw [Go.Sort.partition_fst]
  have := partLoop_range (a := a) (b - 1 + 1 - (a + 1)) (a + 1) (b - 1) (Go.Sort.swp d a pv) (Nat.le_refl _) (by omega) (by omega)
  omega
theorem parteq_range {a b pv : Nat} {d : Array Int} (hab : a < b) : a < (Go.Sort.partitionEqual Go.Sort.ltInt d a b pv).1 ∧ (Go.Sort.partitionEqual Go.Sort.ltInt d a b pv).1 ≤ b := by
  unfold Go.Sort.partitionEqual
  have := partEqLoop_range (a := a) (b - 1 + 1 - (a + 1)) (a + 1) (b - 1) (Go.Sort.swp d a pv) (Nat.le_refl _) (by omega) (by omega)
  omega
def pdq17 (d : Array Int) (a b l pv : Nat) (wb wp : Bool) : Array Int :=
  if a > 0 && !Go.Sort.ltInt d[a - 1]! d[pv]! then Go.Sort.pdq Go.Sort.ltInt (Go.Sort.partitionEqual Go.Sort.ltInt d a b pv).2 (Go.Sort.partitionEqual Go.Sort.ltInt d a b pv).1 b l wb wp
  else if (Go.Sort.partition Go.Sort.ltInt d a b pv).1 - a < b - (Go.Sort.partition Go.Sort.ltInt d a b pv).1 then
    Go.Sort.pdq Go.Sort.ltInt (Go.Sort.pdq Go.Sort.ltInt (Go.Sort.partition Go.Sort.ltInt d a b pv).2.2 a (Go.Sort.partition Go.Sort.ltInt d a b pv).1 l true true) ((Go.Sort.partition Go.Sort.ltInt d a b pv).1 + 1) b l (decide ((Go.Sort.partition Go.Sort.ltInt d a b pv).1 - a ≥ (b - a) / 8)) (Go.Sort.partition Go.Sort.ltInt d a b pv).2.1
  else
    Go.Sort.pdq Go.Sort.ltInt (Go.Sort.pdq Go.Sort.ltInt (Go.Sort.partition Go.Sort.ltInt d a b pv).2.2 ((Go.Sort.partition Go.Sort.ltInt d a b pv).1 + 1) b l true true) a (Go.Sort.partition Go.Sort.ltInt d a b pv).1 l (decide (b - (Go.Sort.partition Go.Sort.ltInt d a b pv).1 ≥ (b - a) / 8)) (Go.Sort.partition Go.Sort.ltInt d a b pv).2.1
def pdq15 (d : Array Int) (a b l pv : Nat) (h : Go.Sort.Hint) (wb wp : Bool) : Array Int :=
  if wb && wp && decide (h = .increasing) then
    (if (Go.Sort.partialInsertionSort Go.Sort.ltInt d a b).2 then (Go.Sort.partialInsertionSort Go.Sort.ltInt d a b).1 else pdq17 (Go.Sort.partialInsertionSort Go.Sort.ltInt d a b).1 a b l pv wb wp)
  else pdq17 d a b l pv wb wp
def pdq10 (d : Array Int) (a b l : Nat) (wb wp : Bool) : Array Int :=
  if (Go.Sort.choosePivot Go.Sort.ltInt d a b).2 = .decreasing then pdq15 (Go.Sort.reverseRange d a b) a b l ((b - 1) - ((Go.Sort.choosePivot Go.Sort.ltInt d a b).1 - a)) .increasing wb wp
  else pdq15 d a b l (Go.Sort.choosePivot Go.Sort.ltInt d a b).1 (Go.Sort.choosePivot Go.Sort.ltInt d a b).2 wb wp
theorem pdq_17 {d : Array Int} {a b l pv : Nat} {wb wp : Bool} (hab : a < b) : (if a > 0 && !Go.Sort.ltInt d[a - 1]! d[pv]! then
      match Go.Sort.partitionEqual Go.Sort.ltInt d a b pv with
      | (mid, d4) => if _h : a < mid ∧ mid ≤ b then Go.Sort.pdq Go.Sort.ltInt d4 mid b l wb wp else d4
    else
      match Go.Sort.partition Go.Sort.ltInt d a b pv with
      | (mid, alreadyPartitioned, d4) =>
        if _h : a ≤ mid ∧ mid < b then
          if mid - a < b - mid then
            Go.Sort.pdq Go.Sort.ltInt (Go.Sort.pdq Go.Sort.ltInt d4 a mid l true true) (mid + 1) b l (decide (mid - a ≥ (b - a) / 8)) alreadyPartitioned
          else
            Go.Sort.pdq Go.Sort.ltInt (Go.Sort.pdq Go.Sort.ltInt d4 (mid + 1) b l true true) a mid l (decide (b - mid ≥ (b - a) / 8)) alreadyPartitioned
        else d4) = pdq17 d a b l pv wb wp := by
  unfold pdq17
  have h1 := part_range (d := d) (pv := pv) hab
  have h2 := parteq_range (d := d) (pv := pv) hab
  generalize Go.Sort.partitionEqual Go.Sort.ltInt d a b pv = p at h2 ⊢
  generalize Go.Sort.partition Go.Sort.ltInt d a b pv = q at h1 ⊢
  obtain ⟨p1, p2⟩ := p
  obtain ⟨q1, q2, q3⟩ := q
  simp only at h1 h2 ⊢
  rw [dif_pos h1, dif_pos h2]
theorem pdq_parts {d : Array Int} {a b l : Nat} {wb wp : Bool} (h12 : ¬ b - a ≤ 12) (hl : ¬ l = 0) :
    Go.Sort.pdq Go.Sort.ltInt d a b l wb wp = if wb then pdq10 d a b l wb wp else pdq10 (Go.Sort.breakPatterns d a b) a b (l - 1) wb wp := by
  rw [Go.Sort.pdq, if_neg h12, if_neg hl]
  have hab : a < b := by omega
  simp only [pdq_17 hab]
  unfold pdq10 pdq15
  cases wb
  · simp only [Bool.not_false, if_true, Bool.false_and, Bool.false_eq_true, if_false]
    split <;> rfl
  · simp only [Bool.not_true, Bool.false_eq_true, if_false, if_true, Bool.true_and]
    split
    · cases wp
      · simp
      · simp
    · cases wp
      · simp
      · simp only [Bool.true_and, decide_eq_true_eq]
        split <;> simp
/-! the sort's own recursion: a round's last part -/
theorem eighth_i {a : Nat} (ha : a ≤ 1000000) : arI .quo .i64 (a : Int) 8 = ((a / 8 : Nat) : Int) := by
  have h : arI .quo .i64 (a : Int) ((8 : Nat) : Int) = ((a / 8 : Nat) : Int) := by
    have h2 : a / 8 ≤ a := Nat.div_le_self a 8
    rw [arI_quo, ← Int.ofNat_tdiv]
    generalize a / 8 = q at h2
    exact wrap_fits (by omega) (by omega)
  exact h
theorem gtr_c {a k : Nat} {c : Int} (hc : c = (k : Int)) : cmI .gtr (a : Int) c = decide (k < a) := by rw [hc]; exact gtr_nat
def cR : DCode → DCode
  | .seq _ b => b
  | c => c
def cB : DCode → DCode
  | .block _ b => b
  | .loop b => b
  | c => c
def k74 : DCode := cB (cB (cB (cR (cR d74))))
def k10 : DCode := cR (cR (cR (cR k74)))
def k15 : DCode := cR (cR k10)
def k17 : DCode := cR k15
def Good74 (m : MS) (i n c r N : Nat) (T : Array Int) (KK : DExit → TS → MS → Prop) : Prop :=
  (∀ ts, KK .ret ts (rowM m i n r T)) ∧
  ∀ (a b l : Nat) (wb wp : Bool) (d : Array Int) (ts : TS), a ≤ b → b ≤ n → b - a < N → l ≤ 64 → Go.Sort.pdq Go.Sort.ltInt d a b l wb wp = T →
    Weak ts [.sl i [] 1 0 n c, AV.int a, AV.int b, AV.int l, .junk, .junk, .junk, .junk, AV.bool wb, AV.bool wp, .junk, .junk, .junk, .junk, .junk, .junk, .junk, .junk, .junk, .junk, .junk, .junk, .junk, .junk, .junk, .junk, .junk, .junk, .junk, .junk, .junk, .junk, .junk, .junk, .junk, .junk, .junk, .junk, .junk, .junk, .junk, .junk, .junk, .junk, .junk, .junk, .junk, .junk, .junk, .junk, .junk, .junk, .junk, .junk, .junk, .junk, .junk, .junk, .junk, .junk, .junk, .junk, .junk, .junk, .junk, .junk, .junk, .junk, .junk, .junk, .junk, .junk, .junk, .junk, .junk, .junk, .junk, .junk, .junk, .junk, .junk, .junk, .junk, .junk, .junk, .junk, .junk, .junk, .junk, .junk, .junk, .junk, .junk, .junk, .junk, .junk, .junk, .junk, .junk, .junk, .junk, .junk, .junk, .junk, .junk, .junk, .junk, .junk, .junk, .junk, .junk, .junk, .junk, .junk, .junk, .junk, .junk, .junk, .junk, .junk, .junk, .junk, .junk, .junk, .junk, .junk, .junk, .junk, .junk, .junk, .junk, .junk, .junk, .junk] → KK .normal ts (rowM m i n r d) ∧ KK (.exit 1) ts (rowM m i n r d)
def IH74 (w0 : World) (m : MS) (i n c r N : Nat) : Prop :=
  ∀ (a b l : Nat) (d : Array Int) (K : AV → MS → Prop), a ≤ b → b ≤ n → b - a < N → l ≤ 64 → K (.tup []) (rowM m i n r (Go.Sort.pdq Go.Sort.ltInt d a b l true true)) → CallLeaf Try.prog w0 74 [.sl i [] 1 0 n c, AV.int a, AV.int b, AV.int l] (rowM m i n r d) K
set_option maxRecDepth 20000 in
set_option maxHeartbeats 3200000 in
theorem t17 {nb a b l pv n c r i : Nat} {wb wp : Bool} {e : Ent} {d T : Array Int} {KK : DExit → TS → MS → Prop} {x12 x19 x20 x21 x22 x23 x24 x25 x26 x27 x28 x29 x30 x31 x32 x33 x34 x35 x36 x37 x38 x39 x40 x41 x42 x43 x44 x45 x46 x47 x48 x49 x50 x51 x52 x53 x54 x55 x56 x57 x58 x59 x60 x61 x62 x63 x64 x65 x66 x67 x68 x69 x70 x71 x72 : AV} (hi : getE m i = some e) (hn : n < 256) (hb : b ≤ n) (hab : a + 12 < b) (hpv : a ≤ pv ∧ pv < b) (hl : l ≤ 64)
    (ih : IH74 w0 m i n c r (b - a)) (hG : Good74 m i n c r (b - a) T KK) (hT : pdq17 d a b l pv wb wp = T) :
    AW Try.prog w0 nb k17 [.sl i [] 1 0 n c, AV.int a, AV.int b, AV.int l, .junk, .junk, .junk, .junk, AV.bool wb, AV.bool wp, AV.int (b - a : Nat), AV.int pv, x12, .junk, .junk, .junk, .junk, .junk, .junk, x19, x20, x21, x22, x23, x24, x25, x26, x27, x28, x29, x30, x31, x32, x33, x34, x35, x36, x37, x38, x39, x40, x41, x42, x43, x44, x45, x46, x47, x48, x49, x50, x51, x52, x53, x54, x55, x56, x57, x58, x59, x60, x61, x62, x63, x64, x65, x66, x67, x68, x69, x70, x71, x72, .junk, .junk, .junk, .junk, .junk, .junk, .junk, .junk, .junk, .junk, .junk, .junk, .junk, .junk, .junk, .junk, .junk, .junk, .junk, .junk, .junk, .junk, .junk, .junk, .junk, .junk, .junk, .junk, .junk, .junk, .junk, .junk, .junk, .junk, .junk, .junk, .junk, .junk, .junk, .junk, .junk, .junk, .junk, .junk, .junk, .junk, .junk, .junk, .junk, .junk, .junk, .junk, .junk, .junk, .junk, .junk, .junk, .junk, .junk, .junk, .junk] (rowM m i n r d) KK := by
  unfold pdq17 at hT
  refine aw_assoc ?_
  refine AW.cut ?_
  conv => whnf
  repeat (first | (refine br.yes ?_; conv => whnf) | (refine br.no ?_; conv => whnf))
  rw [gtr_c (k := 0) (c := 0) rfl]
  refine br_intro (fun g1 => ?_) (fun g1 => ?_)
  · have g1' : 0 < a := by simpa using g1
    conv => whnf
    repeat (first | (refine br.yes ?_; conv => whnf) | (refine br.no ?_; conv => whnf))
    rw [sub_one (by omega) (by omega)]
    refine ⟨side_in ⟨by omega, by omega⟩, ?_⟩
    conv => whnf
    repeat (first | (refine br.yes ?_; conv => whnf) | (refine br.no ?_; conv => whnf))
    rw [row_get hi]
    conv => whnf
    repeat (first | (refine br.yes ?_; conv => whnf) | (refine br.no ?_; conv => whnf))
    refine ⟨side_in (at_lt (by omega)), ?_⟩
    rw [row_nth]
    conv => whnf
    repeat (first | (refine br.yes ?_; conv => whnf) | (refine br.no ?_; conv => whnf))
    refine ⟨side_in ⟨by omega, by omega⟩, ?_⟩
    conv => whnf
    repeat (first | (refine br.yes ?_; conv => whnf) | (refine br.no ?_; conv => whnf))
    rw [row_get hi]
    conv => whnf
    repeat (first | (refine br.yes ?_; conv => whnf) | (refine br.no ?_; conv => whnf))
    refine ⟨side_in (at_lt (by omega)), ?_⟩
    rw [row_nth]
    conv => whnf
    repeat (first | (refine br.yes ?_; conv => whnf) | (refine br.no ?_; conv => whnf))
    refine q_keep (AV.bool (Go.Sort.ltInt d[a - 1]! d[pv]!)) (fun K' h => c_Less h) ?_
    conv => whnf
    repeat (first | (refine br.yes ?_; conv => whnf) | (refine br.no ?_; conv => whnf))
    refine AW.cut ?_
    conv => whnf
    repeat (first | (refine br.yes ?_; conv => whnf) | (refine br.no ?_; conv => whnf))
    refine br_intro (fun g2 => ?_) (fun g2 => ?_)
    · have hl2 := notB_t g2
      rw [if_pos (by simp [g1', hl2])] at hT
      conv => whnf
      repeat (first | (refine br.yes ?_; conv => whnf) | (refine br.no ?_; conv => whnf))
      refine c_pareq hi (by omega) hb (by omega) (by omega) ?_
      have hr := parteq_range (d := d) (pv := pv) (show a < b by omega)
      generalize Go.Sort.partitionEqual Go.Sort.ltInt d a b pv = P at hT hr ⊢
      conv => whnf
      repeat (first | (refine br.yes ?_; conv => whnf) | (refine br.no ?_; conv => whnf))
      refine (hG.2 _ _ _ _ _ _ _ ?_ ?_ ?_ hl hT ?wp).2
      · omega
      · omega
      · omega
      case wp =>
        repeat (first | exact weak_nil | refine weak_same ?_ | refine weak_junk ?_)
    · have hl2 := notB_f g2
      conv => whnf
      repeat (first | (refine br.yes ?_; conv => whnf) | (refine br.no ?_; conv => whnf))
      rw [if_neg (by simp [hl2])] at hT
      refine AW.cut ?_
      conv => whnf
      repeat (first | (refine br.yes ?_; conv => whnf) | (refine br.no ?_; conv => whnf))
      refine c_part hi (by omega) hb (by omega) (by omega) ?_
      have hr := part_range (d := d) (pv := pv) (show a < b by omega)
      generalize Go.Sort.partition Go.Sort.ltInt d a b pv = P at hT hr ⊢
      unfold partA
      conv => whnf
      repeat (first | (refine br.yes ?_; conv => whnf) | (refine br.no ?_; conv => whnf))
      refine AW.cut ?_
      conv => whnf
      repeat (first | (refine br.yes ?_; conv => whnf) | (refine br.no ?_; conv => whnf))
      refine AW.cut ?_
      conv => whnf
      repeat (first | (refine br.yes ?_; conv => whnf) | (refine br.no ?_; conv => whnf))
      rw [sub_nat_i (by omega) (by omega), sub_nat_i (by omega) (by omega)]
      refine AW.cut ?_
      conv => whnf
      repeat (first | (refine br.yes ?_; conv => whnf) | (refine br.no ?_; conv => whnf))
      refine ⟨side_in (by decide), ?_⟩
      rw [eighth_i (by omega)]
      conv => whnf
      repeat (first | (refine br.yes ?_; conv => whnf) | (refine br.no ?_; conv => whnf))
      refine AW.cut ?_
      conv => whnf
      repeat (first | (refine br.yes ?_; conv => whnf) | (refine br.no ?_; conv => whnf))
      rw [lss_nat]
      refine AW.cond ?_
      conv => whnf
      repeat (first | (refine br.yes ?_; conv => whnf) | (refine br.no ?_; conv => whnf))
      refine br_intro (fun s1 => ?_) (fun s1 => ?_)
      · have s1' : P.1 - a < b - P.1 := by simpa using s1
        rw [if_pos s1'] at hT
        refine AW.cut ?_
        conv => whnf
        repeat (first | (refine br.yes ?_; conv => whnf) | (refine br.no ?_; conv => whnf))
        rw [geq_nat]
        refine AW.cut ?_
        conv => whnf
        repeat (first | (refine br.yes ?_; conv => whnf) | (refine br.no ?_; conv => whnf))
        refine ih _ _ _ _ _ (by omega) (by omega) (by omega) hl ?_
        conv => whnf
        repeat (first | (refine br.yes ?_; conv => whnf) | (refine br.no ?_; conv => whnf))
        refine AW.mk ?_
        conv => whnf
        repeat (first | (refine br.yes ?_; conv => whnf) | (refine br.no ?_; conv => whnf))
        rw [add_one (by omega)]
        refine (hG.2 _ _ _ _ _ _ _ ?_ ?_ ?_ hl hT ?wqA).1
        · omega
        · omega
        · omega
        case wqA =>
          repeat (first | exact weak_nil | refine weak_same ?_ | refine weak_junk ?_)
      · have s1' : ¬ P.1 - a < b - P.1 := by simpa using s1
        rw [if_neg s1'] at hT
        refine AW.cut ?_
        conv => whnf
        repeat (first | (refine br.yes ?_; conv => whnf) | (refine br.no ?_; conv => whnf))
        rw [geq_nat]
        refine AW.cut ?_
        conv => whnf
        repeat (first | (refine br.yes ?_; conv => whnf) | (refine br.no ?_; conv => whnf))
        rw [add_one (by omega)]
        refine ih _ _ _ _ _ (by omega) (by omega) (by omega) hl ?_
        conv => whnf
        repeat (first | (refine br.yes ?_; conv => whnf) | (refine br.no ?_; conv => whnf))
        refine AW.mk ?_
        conv => whnf
        repeat (first | (refine br.yes ?_; conv => whnf) | (refine br.no ?_; conv => whnf))
        refine (hG.2 _ _ _ _ _ _ _ ?_ ?_ ?_ hl hT ?wrA).1
        · omega
        · omega
        · omega
        case wrA =>
          repeat (first | exact weak_nil | refine weak_same ?_ | refine weak_junk ?_)
  · have g1' : ¬ 0 < a := by simpa using g1
    conv => whnf
    repeat (first | (refine br.yes ?_; conv => whnf) | (refine br.no ?_; conv => whnf))
    refine AW.cut ?_
    conv => whnf
    repeat (first | (refine br.yes ?_; conv => whnf) | (refine br.no ?_; conv => whnf))
    rw [if_neg (by simp; intro h; omega)] at hT
    refine AW.cut ?_
    conv => whnf
    repeat (first | (refine br.yes ?_; conv => whnf) | (refine br.no ?_; conv => whnf))
    refine c_part hi (by omega) hb (by omega) (by omega) ?_
    have hr := part_range (d := d) (pv := pv) (show a < b by omega)
    generalize Go.Sort.partition Go.Sort.ltInt d a b pv = P at hT hr ⊢
    unfold partA
    conv => whnf
    repeat (first | (refine br.yes ?_; conv => whnf) | (refine br.no ?_; conv => whnf))
    refine AW.cut ?_
    conv => whnf
    repeat (first | (refine br.yes ?_; conv => whnf) | (refine br.no ?_; conv => whnf))
    refine AW.cut ?_
    conv => whnf
    repeat (first | (refine br.yes ?_; conv => whnf) | (refine br.no ?_; conv => whnf))
    rw [sub_nat_i (by omega) (by omega), sub_nat_i (by omega) (by omega)]
    refine AW.cut ?_
    conv => whnf
    repeat (first | (refine br.yes ?_; conv => whnf) | (refine br.no ?_; conv => whnf))
    refine ⟨side_in (by decide), ?_⟩
    rw [eighth_i (by omega)]
    conv => whnf
    repeat (first | (refine br.yes ?_; conv => whnf) | (refine br.no ?_; conv => whnf))
    refine AW.cut ?_
    conv => whnf
    repeat (first | (refine br.yes ?_; conv => whnf) | (refine br.no ?_; conv => whnf))
    rw [lss_nat]
    refine AW.cond ?_
    conv => whnf
    repeat (first | (refine br.yes ?_; conv => whnf) | (refine br.no ?_; conv => whnf))
    refine br_intro (fun s1 => ?_) (fun s1 => ?_)
    · have s1' : P.1 - a < b - P.1 := by simpa using s1
      rw [if_pos s1'] at hT
      refine AW.cut ?_
      conv => whnf
      repeat (first | (refine br.yes ?_; conv => whnf) | (refine br.no ?_; conv => whnf))
      rw [geq_nat]
      refine AW.cut ?_
      conv => whnf
      repeat (first | (refine br.yes ?_; conv => whnf) | (refine br.no ?_; conv => whnf))
      refine ih _ _ _ _ _ (by omega) (by omega) (by omega) hl ?_
      conv => whnf
      repeat (first | (refine br.yes ?_; conv => whnf) | (refine br.no ?_; conv => whnf))
      refine AW.mk ?_
      conv => whnf
      repeat (first | (refine br.yes ?_; conv => whnf) | (refine br.no ?_; conv => whnf))
      rw [add_one (by omega)]
      refine (hG.2 _ _ _ _ _ _ _ ?_ ?_ ?_ hl hT ?wqB).1
      · omega
      · omega
      · omega
      case wqB =>
        repeat (first | exact weak_nil | refine weak_same ?_ | refine weak_junk ?_)
    · have s1' : ¬ P.1 - a < b - P.1 := by simpa using s1
      rw [if_neg s1'] at hT
      refine AW.cut ?_
      conv => whnf
      repeat (first | (refine br.yes ?_; conv => whnf) | (refine br.no ?_; conv => whnf))
      rw [geq_nat]
      refine AW.cut ?_
      conv => whnf
      repeat (first | (refine br.yes ?_; conv => whnf) | (refine br.no ?_; conv => whnf))
      rw [add_one (by omega)]
      refine ih _ _ _ _ _ (by omega) (by omega) (by omega) hl ?_
      conv => whnf
      repeat (first | (refine br.yes ?_; conv => whnf) | (refine br.no ?_; conv => whnf))
      refine AW.mk ?_
      conv => whnf
      repeat (first | (refine br.yes ?_; conv => whnf) | (refine br.no ?_; conv => whnf))
      refine (hG.2 _ _ _ _ _ _ _ ?_ ?_ ?_ hl hT ?wrB).1
      · omega
      · omega
      · omega
      case wrB =>
        repeat (first | exact weak_nil | refine weak_same ?_ | refine weak_junk ?_)
/-! the sort's own recursion, walked -/
theorem hint_1 {h : Go.Sort.Hint} : cmI .eql (Go.Sort.hintCode h) 1 = decide (h = .increasing) := by
  rw [cmI_eql]; cases h <;> rfl
theorem hint_2 {h : Go.Sort.Hint} : cmI .eql (Go.Sort.hintCode h) 2 = decide (h = .decreasing) := by
  rw [cmI_eql]; cases h <;> rfl
set_option maxRecDepth 20000 in
set_option maxHeartbeats 3200000 in
theorem t15 {nb a b l pv n c r i : Nat} {wb wp : Bool} {h : Go.Sort.Hint} {e : Ent} {d T : Array Int} {KK : DExit → TS → MS → Prop} {x19 x20 x21 x22 x23 x24 x25 x26 x27 x28 x29 x30 x31 x32 x33 x34 x35 x36 x37 x38 x39 x40 x41 x42 x43 x44 x45 x46 x47 x48 x49 x50 x51 x52 x53 x54 x55 x56 x57 x58 x59 x60 : AV} (hi : getE m i = some e) (hn : n < 256) (hb : b ≤ n) (hab : a + 12 < b) (hpv : a ≤ pv ∧ pv < b) (hl : l ≤ 64)
    (ih : IH74 w0 m i n c r (b - a)) (hG : Good74 m i n c r (b - a) T KK) (hT : pdq15 d a b l pv h wb wp = T) :
    AW Try.prog w0 nb k15 [.sl i [] 1 0 n c, AV.int a, AV.int b, AV.int l, .junk, .junk, .junk, .junk, AV.bool wb, AV.bool wp, AV.int (b - a : Nat), AV.int pv, AV.int (Go.Sort.hintCode h), .junk, .junk, .junk, .junk, .junk, .junk, x19, x20, x21, x22, x23, x24, x25, x26, x27, x28, x29, x30, x31, x32, x33, x34, x35, x36, x37, x38, x39, x40, x41, x42, x43, x44, x45, x46, x47, x48, x49, x50, x51, x52, x53, x54, x55, x56, x57, x58, x59, x60, .junk, .junk, .junk, .junk, .junk, .junk, .junk, .junk, .junk, .junk, .junk, .junk, .junk, .junk, .junk, .junk, .junk, .junk, .junk, .junk, .junk, .junk, .junk, .junk, .junk, .junk, .junk, .junk, .junk, .junk, .junk, .junk, .junk, .junk, .junk, .junk, .junk, .junk, .junk, .junk, .junk, .junk, .junk, .junk, .junk, .junk, .junk, .junk, .junk, .junk, .junk, .junk, .junk, .junk, .junk, .junk, .junk, .junk, .junk, .junk, .junk, .junk, .junk, .junk, .junk, .junk, .junk, .junk, .junk, .junk, .junk, .junk, .junk] (rowM m i n r d) KK := by
  unfold pdq15 at hT
  refine aw_assoc ?_
  cases wb
  · have hT : pdq17 d a b l pv false wp = T := hT
    refine AW.cut ?_
    conv => whnf
    repeat (first | (refine br.yes ?_; conv => whnf) | (refine br.no ?_; conv => whnf))
    refine AW.cut ?_
    conv => whnf
    repeat (first | (refine br.yes ?_; conv => whnf) | (refine br.no ?_; conv => whnf))
    exact t17 hi hn hb hab hpv hl ih hG hT
  · cases wp
    · have hT : pdq17 d a b l pv true false = T := hT
      refine AW.cut ?_
      conv => whnf
      repeat (first | (refine br.yes ?_; conv => whnf) | (refine br.no ?_; conv => whnf))
      refine AW.cut ?_
      conv => whnf
      repeat (first | (refine br.yes ?_; conv => whnf) | (refine br.no ?_; conv => whnf))
      exact t17 hi hn hb hab hpv hl ih hG hT
    · refine AW.cut ?_
      conv => whnf
      repeat (first | (refine br.yes ?_; conv => whnf) | (refine br.no ?_; conv => whnf))
      rw [hint_1]
      refine AW.cut ?_
      conv => whnf
      repeat (first | (refine br.yes ?_; conv => whnf) | (refine br.no ?_; conv => whnf))
      refine br_intro (fun g1 => ?_) (fun g1 => ?_)
      · rw [if_pos (by simpa using g1)] at hT
        conv => whnf
        repeat (first | (refine br.yes ?_; conv => whnf) | (refine br.no ?_; conv => whnf))
        refine c_pins hi (by omega) hb (by omega) ?_
        generalize Go.Sort.partialInsertionSort Go.Sort.ltInt d a b = P at hT ⊢
        conv => whnf
        repeat (first | (refine br.yes ?_; conv => whnf) | (refine br.no ?_; conv => whnf))
        refine br_intro (fun g2 => ?_) (fun g2 => ?_)
        · rw [if_pos g2] at hT
          subst hT
          conv => whnf
          repeat (first | (refine br.yes ?_; conv => whnf) | (refine br.no ?_; conv => whnf))
          exact hG.1 _
        · rw [if_neg (by rw [g2]; simp)] at hT
          conv => whnf
          repeat (first | (refine br.yes ?_; conv => whnf) | (refine br.no ?_; conv => whnf))
          exact t17 hi hn hb hab hpv hl ih hG hT
      · rw [if_neg (by simpa using g1)] at hT
        conv => whnf
        repeat (first | (refine br.yes ?_; conv => whnf) | (refine br.no ?_; conv => whnf))
        exact t17 hi hn hb hab hpv hl ih hG hT
set_option maxRecDepth 20000 in
set_option maxHeartbeats 3200000 in
theorem t10 {nb a b l n c r i : Nat} {wb wp : Bool} {e : Ent} {d T : Array Int} {KK : DExit → TS → MS → Prop} {x11 x12 x19 x20 x21 x22 x23 x24 x25 x26 x27 x28 x29 x30 x31 x32 x33 x34 x35 x36 x37 x38 x39 x40 x41 : AV} (hi : getE m i = some e) (hn : n < 256) (hb : b ≤ n) (hab : a + 12 < b) (hl : l ≤ 64)
    (ih : IH74 w0 m i n c r (b - a)) (hG : Good74 m i n c r (b - a) T KK) (hT : pdq10 d a b l wb wp = T) :
    AW Try.prog w0 nb k10 [.sl i [] 1 0 n c, AV.int a, AV.int b, AV.int l, .junk, .junk, .junk, .junk, AV.bool wb, AV.bool wp, AV.int (b - a : Nat), x11, x12, .junk, .junk, .junk, .junk, .junk, .junk, x19, x20, x21, x22, x23, x24, x25, x26, x27, x28, x29, x30, x31, x32, x33, x34, x35, x36, x37, x38, x39, x40, x41, .junk, .junk, .junk, .junk, .junk, .junk, .junk, .junk, .junk, .junk, .junk, .junk, .junk, .junk, .junk, .junk, .junk, .junk, .junk, .junk, .junk, .junk, .junk, .junk, .junk, .junk, .junk, .junk, .junk, .junk, .junk, .junk, .junk, .junk, .junk, .junk, .junk, .junk, .junk, .junk, .junk, .junk, .junk, .junk, .junk, .junk, .junk, .junk, .junk, .junk, .junk, .junk, .junk, .junk, .junk, .junk, .junk, .junk, .junk, .junk, .junk, .junk, .junk, .junk, .junk, .junk, .junk, .junk, .junk, .junk, .junk, .junk, .junk, .junk, .junk, .junk, .junk, .junk, .junk, .junk, .junk, .junk, .junk, .junk, .junk, .junk, .junk, .junk, .junk, .junk, .junk, .junk] (rowM m i n r d) KK := by
  unfold pdq10 at hT
  have hc := Go.Sort.choosePivot_holds Go.Sort.ltInt d a b (by omega)
  rw [Go.Sort.choosePivot_eq] at hT hc
  simp only at hT hc
  refine AW.cut ?_
  conv => whnf
  repeat (first | (refine br.yes ?_; conv => whnf) | (refine br.no ?_; conv => whnf))
  refine c_choose (row_get hi) (by omega) hb hab ?_
  generalize Go.Sort.rawPivot Go.Sort.ltInt d a b = P at hT hc ⊢
  unfold pivA
  conv => whnf
  repeat (first | (refine br.yes ?_; conv => whnf) | (refine br.no ?_; conv => whnf))
  refine aw_assoc ?_
  refine AW.cut ?_
  conv => whnf
  repeat (first | (refine br.yes ?_; conv => whnf) | (refine br.no ?_; conv => whnf))
  rw [hint_2]
  refine AW.cut ?_
  conv => whnf
  repeat (first | (refine br.yes ?_; conv => whnf) | (refine br.no ?_; conv => whnf))
  refine br_intro (fun g1 => ?_) (fun g1 => ?_)
  · rw [if_pos (by simpa using g1)] at hT
    conv => whnf
    repeat (first | (refine br.yes ?_; conv => whnf) | (refine br.no ?_; conv => whnf))
    refine c_reverse hi (by omega) hb (by omega) ?_
    conv => whnf
    repeat (first | (refine br.yes ?_; conv => whnf) | (refine br.no ?_; conv => whnf))
    rw [sub_one (by omega) (by omega), sub_nat_i (by omega) (by omega)]
    conv => whnf
    repeat (first | (refine br.yes ?_; conv => whnf) | (refine br.no ?_; conv => whnf))
    rw [sub_nat_i (by omega) (by omega)]
    conv => whnf
    repeat (first | (refine br.yes ?_; conv => whnf) | (refine br.no ?_; conv => whnf))
    exact t15 (h := .increasing) hi hn hb hab (by omega) hl ih hG hT
  · rw [if_neg (by simpa using g1)] at hT
    conv => whnf
    repeat (first | (refine br.yes ?_; conv => whnf) | (refine br.no ?_; conv => whnf))
    exact t15 hi hn hb hab hc hl ih hG hT
/-! the sort -/
theorem leq_c {a k : Nat} {c : Int} (hc : c = (k : Int)) : cmI .leq (a : Int) c = decide (a ≤ k) := by rw [hc]; exact leq_nat
theorem eql_c {a k : Nat} {c : Int} (hc : c = (k : Int)) : cmI .eql (a : Int) c = decide (a = k) := by rw [hc]; exact eql_nat
set_option maxRecDepth 20000 in
set_option maxHeartbeats 3200000 in
theorem c_pdq {n c r i : Nat} {e : Ent} (hi : getE m i = some e) (hm : belowM m.length m = true) (hn : n < 256) (N : Nat) : ∀ (a b l : Nat) (d : Array Int) (K : AV → MS → Prop), b - a = N → a ≤ b → b ≤ n → l ≤ 64 →
    K (.tup []) (rowM m i n r (Go.Sort.pdq Go.Sort.ltInt d a b l true true)) → CallLeaf Try.prog w0 74 [.sl i [] 1 0 n c, AV.int a, AV.int b, AV.int l] (rowM m i n r d) K := by
  induction N using Nat.strongRecOn with
  | _ N ih0 =>
  intro a b l d K hN hab hb hl hK
  have ih : ∀ N1, N1 ≤ N → IH74 w0 m i n c r N1 := by
    intro N1 h1 a' b' l' d' K' h2 h3 h4 h5 h6
    exact ih0 (b' - a') (by omega) a' b' l' d' K' rfl h2 h3 h5 h6
  clear ih0
  obtain ⟨T, hT⟩ : ∃ T, T = Go.Sort.pdq Go.Sort.ltInt d a b l true true := ⟨_, rfl⟩
  rw [← hT] at hK
  refine fn_cut hmix h74 ?_
  conv => whnf
  repeat (first | (refine br.yes ?_; conv => whnf) | (refine br.no ?_; conv => whnf))
  refine AW.cut ?_
  conv => whnf
  repeat (first | (refine br.yes ?_; conv => whnf) | (refine br.no ?_; conv => whnf))
  refine AW.cut ?_
  conv => whnf
  repeat (first | (refine br.yes ?_; conv => whnf) | (refine br.no ?_; conv => whnf))
  refine aw_block ?_
  refine aw_loop ?_
  refine loop_opq N (fun k ts M => ∃ d1 a1 b1 l1 wb wp, M = rowM m i n r d1 ∧ (a1 ≤ b1 ∧ b1 ≤ n ∧ k + (b1 - a1) ≤ N) ∧ l1 ≤ 64 ∧ Go.Sort.pdq Go.Sort.ltInt d1 a1 b1 l1 wb wp = T ∧ ts = [.sl i [] 1 0 n c, AV.int a1, AV.int b1, AV.int l1, .junk, .junk, .junk, .junk, AV.bool wb, AV.bool wp, .junk, .junk, .junk, .junk, .junk, .junk, .junk, .junk, .junk, .junk, .junk, .junk, .junk, .junk, .junk, .junk, .junk, .junk, .junk, .junk, .junk, .junk, .junk, .junk, .junk, .junk, .junk, .junk, .junk, .junk, .junk, .junk, .junk, .junk, .junk, .junk, .junk, .junk, .junk, .junk, .junk, .junk, .junk, .junk, .junk, .junk, .junk, .junk, .junk, .junk, .junk, .junk, .junk, .junk, .junk, .junk, .junk, .junk, .junk, .junk, .junk, .junk, .junk, .junk, .junk, .junk, .junk, .junk, .junk, .junk, .junk, .junk, .junk, .junk, .junk, .junk, .junk, .junk, .junk, .junk, .junk, .junk, .junk, .junk, .junk, .junk, .junk, .junk, .junk, .junk, .junk, .junk, .junk, .junk, .junk, .junk, .junk, .junk, .junk, .junk, .junk, .junk, .junk, .junk, .junk, .junk, .junk, .junk, .junk, .junk, .junk, .junk, .junk, .junk, .junk, .junk, .junk, .junk, .junk, .junk, .junk, .junk, .junk, .junk]) _ _ ?hw trim_no ⟨d, a, b, l, true, true, rfl, by omega, hl, hT.symm, rfl⟩ ?_
  case hw =>
    repeat (first | exact weak_nil | refine weak_same ?_ | refine weak_junk ?_)
  rintro k hk ts m' ⟨d1, a1, b1, l1, wb, wp, rfl, hij, hl1, hd, rfl⟩ R hR KK k1 k2 k3
  clear hT hl hab hb
  have k2 : ∀ ts, KK .ret ts (rowM m i n r T) := by
    intro ts
    refine k2 _ _ ?_
    exact hK
  clear k3
  show AW _ _ _ _ _ _ _
  refine aw_block ?_
  refine AW.cut ?_
  conv => whnf
  repeat (first | (refine br.yes ?_; conv => whnf) | (refine br.no ?_; conv => whnf))
  rw [sub_nat_i (by omega) (by omega)]
  refine aw_assoc ?_
  refine AW.cut ?_
  conv => whnf
  repeat (first | (refine br.yes ?_; conv => whnf) | (refine br.no ?_; conv => whnf))
  rw [leq_c (k := 12) (c := 12) rfl]
  refine AW.cut ?_
  conv => whnf
  repeat (first | (refine br.yes ?_; conv => whnf) | (refine br.no ?_; conv => whnf))
  refine br_intro (fun g1 => ?_) (fun g1 => ?_)
  · have g1' : b1 - a1 ≤ 12 := by simpa using g1
    rw [Go.Sort.pdq, if_pos g1'] at hd
    conv => whnf
    repeat (first | (refine br.yes ?_; conv => whnf) | (refine br.no ?_; conv => whnf))
    refine c_insertion hi (by omega) (by omega) (by omega) ?_
    rw [hd]
    conv => whnf
    repeat (first | (refine br.yes ?_; conv => whnf) | (refine br.no ?_; conv => whnf))
    exact k2 _
  · have g1' : ¬ b1 - a1 ≤ 12 := by simpa using g1
    conv => whnf
    repeat (first | (refine br.yes ?_; conv => whnf) | (refine br.no ?_; conv => whnf))
    refine aw_assoc ?_
    refine AW.cut ?_
    conv => whnf
    repeat (first | (refine br.yes ?_; conv => whnf) | (refine br.no ?_; conv => whnf))
    rw [eql_c (k := 0) (c := 0) rfl]
    refine AW.cut ?_
    conv => whnf
    repeat (first | (refine br.yes ?_; conv => whnf) | (refine br.no ?_; conv => whnf))
    refine br_intro (fun g2 => ?_) (fun g2 => ?_)
    · have g2' : l1 = 0 := by simpa using g2
      rw [Go.Sort.pdq, if_neg g1', if_pos g2'] at hd
      conv => whnf
      repeat (first | (refine br.yes ?_; conv => whnf) | (refine br.no ?_; conv => whnf))
      refine c_heap hi (by omega) (by omega) (by omega) ?_
      rw [hd]
      conv => whnf
      repeat (first | (refine br.yes ?_; conv => whnf) | (refine br.no ?_; conv => whnf))
      exact k2 _
    · have g2' : ¬ l1 = 0 := by simpa using g2
      rw [pdq_parts g1' g2'] at hd
      have hG : Good74 m i n c r (b1 - a1) T (fun e ts m => match e with
          | .normal => KK .normal ts m
          | .ret => KK .ret ts m
          | .exit i => if i = 1 then KK .normal ts m else KK (.exit i) ts m) := by
        refine ⟨k2, ?_⟩
        intro a' b' l' wb' wp' d' ts h1 h2 h3 h4 h5 h6
        have hn : KK .normal ts (rowM m i n r d') := k1 _ _ (hR (by omega) _ _ _ _ h6 trim_no ⟨d', a', b', l', wb', wp', rfl, by omega, h4, h5, rfl⟩)
        exact ⟨hn, hn⟩
      conv => whnf
      repeat (first | (refine br.yes ?_; conv => whnf) | (refine br.no ?_; conv => whnf))
      refine aw_assoc ?_
      cases wb
      · have hd : pdq10 (Go.Sort.breakPatterns d1 a1 b1) a1 b1 (l1 - 1) false wp = T := hd
        refine AW.cut ?_
        conv => whnf
        repeat (first | (refine br.yes ?_; conv => whnf) | (refine br.no ?_; conv => whnf))
        refine AW.cut ?_
        conv => whnf
        repeat (first | (refine br.yes ?_; conv => whnf) | (refine br.no ?_; conv => whnf))
        refine br_true (by rw [notB_eq]; rfl) ?_
        conv => whnf
        repeat (first | (refine br.yes ?_; conv => whnf) | (refine br.no ?_; conv => whnf))
        refine c_break hi hm hn (by omega) (by omega) ?_
        conv => whnf
        repeat (first | (refine br.yes ?_; conv => whnf) | (refine br.no ?_; conv => whnf))
        rw [sub_one (by omega) (by omega)]
        conv => whnf
        repeat (first | (refine br.yes ?_; conv => whnf) | (refine br.no ?_; conv => whnf))
        exact t10 hi hn (by omega) (by omega) (by omega) (ih _ (by omega)) hG hd
      · have hd : pdq10 d1 a1 b1 l1 true wp = T := hd
        refine AW.cut ?_
        conv => whnf
        repeat (first | (refine br.yes ?_; conv => whnf) | (refine br.no ?_; conv => whnf))
        refine AW.cut ?_
        conv => whnf
        repeat (first | (refine br.yes ?_; conv => whnf) | (refine br.no ?_; conv => whnf))
        refine br_false (by rw [notB_eq]; rfl) ?_
        conv => whnf
        repeat (first | (refine br.yes ?_; conv => whnf) | (refine br.no ?_; conv => whnf))
        exact t10 hi hn (by omega) (by omega) (by omega) (ih _ (by omega)) hG hd
theorem rowM_self {i n r : Nat} {d : Array Int} (hi : getE m i = some ⟨true, .ai n d.toList, r⟩) : rowM m i n r d = m := by
  unfold rowM; exact setM_self hi
theorem c_Sort {n c r i : Nat} {xs : List Int} (hi : getE m i = some ⟨true, .ai n xs, r⟩) (hx : xs.length = n) (hm : belowM m.length m = true) (hn : n < 256)
    (hK : K (.tup []) (setM m i ⟨true, .ai n (xs.mergeSort (fun x y => decide (x ≤ y))), r⟩)) : CallLeaf Try.prog w0 72 [.sl i [] 1 0 n c] m K := by
  have hs := Go.Sort.sortInt xs
  unfold Go.Sort.sort at hs
  rw [show xs.toArray.size = n by simpa using hx] at hs
  have e1 : rowM m i n r xs.toArray = m := rowM_self (d := xs.toArray) hi
  have e2 : rowM m i n r (Go.Sort.pdq Go.Sort.ltInt xs.toArray 0 n (Go.Sort.bitsLen n) true true) = setM m i ⟨true, .ai n (xs.mergeSort (fun x y => decide (x ≤ y))), r⟩ := by
    unfold rowM
    rw [hs]
  have hb := bits_le hn
  have hp := c_pdq (w0 := w0) (c := c) (r := r) hi hm hn n 0 n (Go.Sort.bitsLen n) xs.toArray
  rw [e1, e2] at hp
  refine fn_cut hmix h72 ?_
  conv => whnf
  repeat (first | (refine br.yes ?_; conv => whnf) | (refine br.no ?_; conv => whnf))
  refine AW.cut ?_
  conv => whnf
  repeat (first | (refine br.yes ?_; conv => whnf) | (refine br.no ?_; conv => whnf))
  refine AW.mk ?_
  conv => whnf
  repeat (first | (refine br.yes ?_; conv => whnf) | (refine br.no ?_; conv => whnf))
  rw [wr_u64 (by omega)]
  refine c_len hn ?_
  conv => whnf
  repeat (first | (refine br.yes ?_; conv => whnf) | (refine br.no ?_; conv => whnf))
  refine hp _ (by omega) (by omega) (by omega) (by omega) ?_
  conv => whnf
  repeat (first | (refine br.yes ?_; conv => whnf) | (refine br.no ?_; conv => whnf))
  exact hK
end
end Go.Proofs.Ytfkbgfpidolhhaa
