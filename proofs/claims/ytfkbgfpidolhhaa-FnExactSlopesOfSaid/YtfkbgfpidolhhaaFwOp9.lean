import Derived.Test.YtfkbgfpidolhhaaFwOpN
namespace Go.Fw
open Go
section
variable {P : Program} {w0 : World} {ow : List Nat} {Q : Exit → Act → World → Prop}
variable {o : Oper} {a : Act} {w : World} {L : Locs} {m : MS} {ts : TS} {K : AV → MS → Prop}

theorem allSome_one {xs : List Operand} {d : DOpd} (h : allSome opdA xs = some [d]) : ∃ x, xs = [x] ∧ opdA x = some d := by
  cases xs with
  | nil => simp [allSome] at h
  | cons x r =>
    simp only [allSome] at h
    split at h
    · rename_i y ys h1 h2
      cases h
      cases r with
      | nil => exact ⟨x, rfl, h1⟩
      | cons b r' => simp only [allSome] at h2; split at h2 <;> cases h2
    · cases h
theorem allSome_two {xs : List Operand} {d e : DOpd} (h : allSome opdA xs = some [d, e]) : ∃ x y, xs = [x, y] ∧ opdA x = some d ∧ opdA y = some e := by
  cases xs with
  | nil => simp [allSome] at h
  | cons x r =>
    simp only [allSome] at h
    split at h
    · rename_i y ys h1 h2
      cases h
      obtain ⟨z, rfl, hz⟩ := allSome_one h2
      exact ⟨x, z, rfl, h1, hz⟩
    · cases h

theorem aop_sound (hR : Rep w0 ow L m w) (hr : RelT L ts a) {d : DOp} (hd : decOp P o = some d) (h : aop P w0 d ts m K) : o.wp P a w (Post w0 ow L o a K) Q := by
  unfold decOp at hd
  split at hd
  · rename_i x ho
    simp only [Option.map_eq_some_iff] at hd; obtain ⟨dx, hx, rfl⟩ := hd
    exact s_move hR hr (.inl ho) hx h
  · rename_i x ho
    simp only [Option.map_eq_some_iff] at hd; obtain ⟨dx, hx, rfl⟩ := hd
    exact s_move hR hr (.inr ho) hx h
  · rename_i ho
    split at hd
    · rename_i h1 h2 h3; cases hd; exact s_pick hR hr ho h1 h2 h3 h
    · cases hd
  · rename_i ho
    simp only [Option.map_eq_some_iff] at hd; obtain ⟨z, hz, rfl⟩ := hd
    exact s_alloc hR ho hz h
  · rename_i ho
    simp only [Option.map_eq_some_iff] at hd; obtain ⟨dx, hx, rfl⟩ := hd
    exact s_box hR hr ho hx h
  · rename_i ho
    split at hd
    · rename_i h1 h2 h3
      split at hd
      · rename_i h4; cases hd; exact s_build hR hr ho h1 h2 h3 h4 h
      · cases hd
    · cases hd
  · rename_i ho
    split at hd
    · rename_i h1 h2
      split at hd
      · rename_i h3
        split at hd
        · rename_i h4
          cases hd
          simp only [Bool.and_eq_true, beq_iff_eq, decide_eq_true_eq] at h4
          exact s_bsl hR hr ho h1 h3 h2 h4.1.1 h4.1.2 h4.2 h
        · cases hd
      · cases hd
    · cases hd
  · rename_i ho
    split at hd
    · rename_i h1 h2; cases hd; exact s_load hR hr ho h1 h2 h
    · cases hd
  · rename_i ho
    split at hd
    · rename_i h1 h2 h3
      split at hd
      · cases hd
      · rename_i h4; cases hd; exact s_store hR hr ho h1 h4 h2 h3 h
    · cases hd
  · rename_i ho
    simp only [Option.map_eq_some_iff] at hd; obtain ⟨dx, hx, rfl⟩ := hd
    exact s_nck hR hr ho hx h
  · rename_i ho
    split at hd
    · rename_i h1
      simp only [Option.map_eq_some_iff] at hd; obtain ⟨dx, hx, rfl⟩ := hd
      exact s_snl hR hr ho h1 hx h
    · cases hd
  · rename_i ho
    split at hd
    · rename_i dd _ _ h1 h2 h3; cases hd
      exact s_bin hR hr ho (fun hb => by cases dd <;> simp at hb; exact h1) h2 h3 h
    · cases hd
  · rename_i ho
    simp only [Option.map_eq_some_iff] at hd; obtain ⟨dx, hx, rfl⟩ := hd
    exact s_un hR hr ho hx h
  · rename_i ho
    split at hd
    · rename_i h1 h2 h3; cases hd; exact s_cvI hR hr ho h1 h2 h3 h
    · rename_i h1 h2 h3; cases hd; exact s_cvF hR hr ho h1 h2 h3 h
    · rename_i h1 h2 h3; cases hd; exact s_cvC hR hr ho h1 h2 h3 h
    · cases hd
  · rename_i ho
    split at hd
    · cases hd
    · rename_i h0 h1 h2; cases hd; exact s_mki hR hr ho h1 (fun ms hms => h0 ms hms) h2 h
    · cases hd
  · rename_i ho
    split at hd
    · rename_i h1 h2; cases hd; exact s_mkf hR hr ho h1 h2 h
    · cases hd
  · rename_i ho
    split at hd
    · rename_i h1 h2 h3
      split at hd
      · rename_i h4; cases hd; exact s_mks hR hr ho h1 h4 h2 h3 h
      · cases hd
    · cases hd
  · rename_i ho
    split at hd
    · rename_i h1 h2 h3 h4 h5
      split at hd
      · rename_i h6; cases hd; exact s_sla hR hr ho h1 h6 h2 h3 h4 h5 h
      · cases hd
    · rename_i h1 h2 h3 h4 h5
      split at hd
      · rename_i h6; cases hd; exact s_slc hR hr ho h1 h6 h2 h3 h4 h5 h
      · cases hd
    · cases hd
  · rename_i ho
    split at hd
    · rename_i h1 h2; cases hd; exact s_fad hR hr ho h1 h2 h
    · cases hd
  · rename_i ho
    split at hd
    · rename_i h1 h2 h3
      split at hd
      · rename_i h4
        split at hd
        · cases hd
        · cases hd; exact s_iad hR hr ho h1 h4 h2 h3 h
      · cases hd
    · rename_i h1 h2 h3
      split at hd
      · rename_i h4; cases hd; exact s_ias hR hr ho h1 h4 h2 h3 h
      · cases hd
    · cases hd
  · rename_i ho
    split at hd
    · rename_i h1 h2; cases hd; exact s_six hR hr ho h1 h2 h
    · cases hd
  · rename_i ho
    split at hd
    · rename_i h1 h2 h3
      split at hd
      · rename_i h4 h5
        split at hd
        · cases hd
        · rename_i h6
          cases hd
          simp only [Bool.or_eq_true, bne_iff_ne, ne_eq, not_or, Bool.not_eq_true, Decidable.not_not] at h6
          exact s_idx hR hr ho h1 h4 h6.1 h5 h6.2 h2 h3 h
      · cases hd
    · cases hd
  · rename_i ho
    simp only [Option.map_eq_some_iff] at hd; obtain ⟨dx, hx, rfl⟩ := hd
    exact s_ext hR hr ho hx h
  · rename_i ho
    split at hd
    · rename_i h1 h2 h3; cases hd; exact s_tai hR hr ho h1 h3 h2 h
    · rename_i h0 h1 h2 h3; cases hd; exact s_tas hR hr ho h1 (fun ms hms => h0 ms hms) h3 h2 h
    · cases hd
  · rename_i c ho
    split at hd
    · rename_i h1 h2
      split at hd
      · rename_i h3
        split at hd
        · rename_i h4
          cases hd
          exact s_call hR hr ho h1 (by unfold fnHas; rw [h3]; exact h4) h2 h
        · split at hd
          · rename_i h5
            cases hd
            simp only [Bool.and_eq_true, beq_iff_eq] at h5
            exact s_flo hR hr ho h1 h3 h5.1.1 h5.1.2 h5.2 h2 h
          · cases hd
      · cases hd
    · rename_i h1 h2
      cases hd
      exact s_callv hR hr ho h1 rfl h2 h
    · rename_i h1 h2
      cases hd
      exact s_inv hR hr ho h1 rfl h2 h
    · rename_i h1 h2
      split at hd
      · rename_i h3
        obtain ⟨x, hx1, hx2⟩ := allSome_one h2
        cases hd
        exact s_len hR hr ho h1 hx1 h3 hx2 h
      · cases hd
    · rename_i h1 h2
      split at hd
      · rename_i h3
        split at hd
        · rename_i h4
          split at hd
          · rename_i h5
            split at hd
            · rename_i h6
              subst h6
              obtain ⟨x, y, hx1, hx2, hx3⟩ := allSome_two h2
              cases hd
              exact h.elim
            · cases hd
          · cases hd
        · cases hd
      · cases hd
    · rename_i h1 h2
      obtain ⟨x, hx1, hx2⟩ := allSome_one h2
      cases hd
      exact s_re hR hr ho h1 hx1 hx2 h
    · rename_i h1 h2
      obtain ⟨x, hx1, hx2⟩ := allSome_one h2
      cases hd
      exact s_im hR hr ho h1 hx1 hx2 h
    · rename_i h1 h2
      obtain ⟨x, y, hx1, hx2, hx3⟩ := allSome_two h2
      cases hd
      exact s_mkc hR hr ho h1 hx1 hx2 hx3 h
    · rename_i h1 h2
      obtain ⟨x, y, hx1, hx2, hx3⟩ := allSome_two h2
      cases hd
      exact s_mxx hR hr ho h1 hx1 hx2 hx3 h
    · rename_i h1 h2
      obtain ⟨x, y, hx1, hx2, hx3⟩ := allSome_two h2
      cases hd
      exact s_mnn hR hr ho h1 hx1 hx2 hx3 h
    · cases hd
  · cases hd
end
end Go.Fw
