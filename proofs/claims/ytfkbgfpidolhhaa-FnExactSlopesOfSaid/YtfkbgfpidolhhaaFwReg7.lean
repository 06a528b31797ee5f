import Derived.Test.YtfkbgfpidolhhaaFwReg6
namespace Go.Fw
open Go
section
variable {P : Program} {w0 : World} {ow : List Nat} {Q : Exit → Act → World → Prop}
variable {L : Locs} {m : MS}
variable {ops : Array Oper} {l : List DOper} {n g s : Nat} {h1 h2 : List Nat}
theorem pure_quiet {op : DOp} (h : pureD op = true) : quiet op = true := by
  cases op <;> first | exact h | (simp [pureD] at h; done)
theorem StepQ.pure {d : DOper} {ts : TS} {v : AV} (hp : pureD d.op = true) (h : StepQ P w0 m d ts v) (m' : MS) : StepQ P w0 m' d ts v := by
  rcases h with ⟨h1, h2⟩ | ⟨h1, h2⟩
  · refine .inl ⟨h1, ?_⟩
    have h3 := h2 (fun v' _ => v' = v) rfl
    have h4 : qop P w0 d.op ts m' (fun v' => v' = v) := by
      generalize d.op = op at hp h3
      cases op <;> first | exact h3 | (simp [pureD] at hp; done) | (simp [pureD, quiet] at hp; done)
    obtain ⟨v', h5, rfl⟩ := qop_fix (pure_quiet hp) h4
    exact h5
  · exact .inr ⟨h1, h2⟩
structure SOk (ops : Array Oper) (l : List DOper) (s : Nat) (h1 : List Nat) : Prop where
  late : ∀ i, i < s → i ∈ waitsOn ops s ∨ (i ∈ h1 ∧ ∃ d, l[i]? = some d ∧ pureD d.op = true)
theorem lateB_ok (h : lateB ops l s h1 = true) : SOk ops l s h1 := by
  refine ⟨fun i hi => ?_⟩
  have := List.all_eq_true.1 h i (List.mem_range.2 hi)
  simp only [Bool.or_eq_true, List.contains_iff_mem, Bool.and_eq_true] at this
  rcases this with h | ⟨h, h'⟩
  · exact .inl h
  · refine .inr ⟨h, ?_⟩
    split at h'
    · rename_i d hd; exact ⟨d, hd, h'⟩
    · cases h'
/-- behind the store -/
theorem head_last (hk : GOk ops l (s + 1) g s h1 (h2 ++ [s])) (hs : SOk ops l s h1) (hn : s + 1 ≤ l.length) (hd : ∀ (i : Nat) (o : Oper), ops[i]? = some o → ∃ d, l[i]? = some d ∧ decOper P ops o = some d)
    {ts : TS} {vs : Nat → AV} (hvs : ∀ q1 i q2 d, h1 = q1 ++ i :: q2 → l[i]? = some d → pureD d.op = true → StepQ P w0 m d (tsP l vs q1 ts) (vs i)) {df : List Deferred}
    (hfin : ∀ a w, a.defers = df → RelT L (tsP l vs (h1 ++ g :: (h2 ++ [s])) ts) a → Rep w0 ow L m w → wpList P ops Q (ops.toList.drop (s + 1)) a w) :
    ∀ (f : Nat) (listed : Array Bool) (a : Act) (w : World) (tl : TS), Fw.cnt listed (s + 1) = f → HeadInv .any ops (s + 1) listed → listed.getD s false = true → St (l.take (s + 1)) ts vs (fun j => listed.getD j true = true) tl → a.defers = df → RelT L tl a → Rep w0 ow L m w →
      wpAny P .any ops Q (f + (ops.size - (s + 1))) listed a w := by
  intro f
  induction f with
  | zero =>
    intro listed a w tl hc inv hgl hst hdf hr hR
    obtain ⟨heq, rfl⟩ := hk.done hn inv hst hc
    rw [Nat.zero_add]
    have hdl : (ops.toList.drop (s + 1)).length = ops.size - (s + 1) := by simp
    rw [← hdl]
    refine wpAny_of_seq _ (s + 1) listed a w (fun j => by simp [List.getElem?_drop]) ?_ (hfin a w hdf hr hR)
    rw [hdl, heq]; exact hk.seq
  | succ f ih =>
    intro listed a w tl hc inv hgl hst hdf hr hR
    obtain ⟨i0, hi0, hl0⟩ := cnt_pos (listed := listed) (s + 1) (by omega)
    obtain ⟨j0, hj0⟩ := hk.ready i0 hi0 hl0
    rw [show f + 1 + (ops.size - (s + 1)) = (f + (ops.size - (s + 1))) + 1 by omega]
    refine ⟨fun h0 => by rw [h0] at hj0; simp at hj0, fun i hi => ?_⟩
    obtain ⟨hun, o, ho, hafter⟩ := mem_ready.1 hi
    have hio : i < ops.size := by
      rcases Nat.lt_or_ge i ops.size with h' | h'
      · exact h'
      · rw [Array.getElem?_eq_none h'] at ho; cases ho
    have hin := hk.inHead inv hi0 hl0 hi hio
    obtain ⟨d, hd1, hd2⟩ := hd i o ho
    have his : i ≠ s := fun h => by subst h; rw [getD_both hun] at hgl; cases hgl
    obtain ⟨os, hos⟩ : ∃ os, ops[s]? = some os := ⟨ops[s]'(by have := hk.le; omega), Array.getElem?_eq_getElem _⟩
    obtain ⟨hi1, d', hd', hpu⟩ : i ∈ h1 ∧ ∃ d, l[i]? = some d ∧ pureD d.op = true := by
      refine (hs.late i (by omega)).resolve_left fun hw => ?_
      obtain ⟨e, he1, he2, he3⟩ := (mem_waitsOn hos).1 hw
      have := inv.closed s os hos hgl e he1 he2
      rw [he3, getD_both hun] at this
      cases this
    rw [hd1] at hd'; cases hd'
    obtain ⟨q1, q2, he⟩ := List.append_of_mem hi1
    have hst1 := hvs q1 i q2 d he hd1 hpu
    refine step_sound ho hd2 hr hR (hst1.congr (hk.agree hn inv hst ho hun hafter hd1 (q1 := q1) (q2 := q2 ++ g :: (h2 ++ [s])) (by rw [he]; simp))) fun cv w' hv hR' => ?_
    have hdst := (decOper_parts hd2).1
    have hgl' : (listed.setIfInBounds i true).getD s false = true := by rw [getD_set_ne false his]; exact hgl
    exact ih _ _ _ _ (hk.cnt hun hin hc) (inv.set hi hin) hgl' (hk.put hn inv hst hin hd1) (by rw [put_defers]; exact hdf) (by rw [← hdst]; exact hr.put _ hv) hR'
/-- behind the operation that grows, ahead of the store -/
theorem head_mid (hk : GOk ops l (s + 1) g s h1 (h2 ++ [s])) (hs : SOk ops l s h1) (hn : s + 1 ≤ l.length) (hd : ∀ (i : Nat) (o : Oper), ops[i]? = some o → ∃ d, l[i]? = some d ∧ decOper P ops o = some d)
    {st : DOp} (hst0 : l[s]? = some ⟨none, none, st⟩)
    {ts : TS} {vs : Nat → AV} (hvs : ∀ q1 i q2 d, h1 ++ g :: (h2 ++ [s]) = q1 ++ i :: q2 → i ≠ g → i ≠ s → l[i]? = some d → StepQ P w0 m d (tsP l vs q1 ts) (vs i)) {df : List Deferred}
    {K3 : MS → Prop} (hop : aop P w0 st (tsP l vs (h1 ++ g :: h2) ts) m fun _ m' => K3 m')
    (hfin : ∀ (L' : Locs) (m' : MS) a w, Ext L L' → K3 m' → a.defers = df → RelT L' (tsP l vs (h1 ++ g :: h2) ts) a → Rep w0 ow L' m' w → wpList P ops Q (ops.toList.drop (s + 1)) a w) :
    ∀ (f : Nat) (listed : Array Bool) (a : Act) (w : World) (tl : TS), Fw.cnt listed (s + 1) = f → HeadInv .any ops (s + 1) listed → listed.getD g true = true → listed.getD s true = false → St (l.take (s + 1)) ts vs (fun j => listed.getD j true = true) tl → a.defers = df → RelT L tl a → Rep w0 ow L m w →
      wpAny P .any ops Q (f + (ops.size - (s + 1))) listed a w := by
  intro f
  induction f with
  | zero =>
    intro listed a w tl hc inv hgl hsl hst hdf hr hR
    have := cnt_zero (s + 1) hc s (by omega)
    rw [hsl] at this; cases this
  | succ f ih =>
    intro listed a w tl hc inv hgl hsl hst hdf hr hR
    obtain ⟨j0, hj0⟩ := hk.ready s (by omega) hsl
    rw [show f + 1 + (ops.size - (s + 1)) = (f + (ops.size - (s + 1))) + 1 by omega]
    refine ⟨fun h0 => by rw [h0] at hj0; simp at hj0, fun i hi => ?_⟩
    obtain ⟨hun, o, ho, hafter⟩ := mem_ready.1 hi
    have hio : i < ops.size := by
      rcases Nat.lt_or_ge i ops.size with h' | h'
      · exact h'
      · rw [Array.getElem?_eq_none h'] at ho; cases ho
    have hin := hk.inHead inv (by omega) hsl hi hio
    obtain ⟨d, hd1, hd2⟩ := hd i o ho
    have hig : i ≠ g := fun h => by subst h; rw [hgl] at hun; cases hun
    have hdst := (decOper_parts hd2).1
    have hil : i < listed.size := by rw [inv.size]; exact hio
    by_cases his : i = s
    · subst his
      rw [hst0] at hd1; cases hd1
      have hag := hk.agree hn inv hst ho hun hafter hst0 (q1 := h1 ++ g :: h2) (q2 := []) (by simp)
      have hop' : aop P w0 st tl m fun _ m' => K3 m' := by
        rw [← aop_congr (ts := tsP l vs (h1 ++ g :: h2) ts)]
        · exact hop
        · intro r hr'; exact hag r (by simpa [readsD] using hr')
      unfold wpOp
      simp only [ho]
      rw [wanted_sound hd2 hr (r := true) rfl, if_pos rfl]
      have e2 := (decOper_parts hd2).2.1
      simp only at e2
      rw [e2] at hop'
      obtain ⟨dd, hdd1, hdd2⟩ := bad_false hop'
      refine .inl (Oper.wp_mono ?_ (aop_sound (Q := Q) hR hr hdd1 hdd2))
      rintro a' w' ⟨cv, av, m', L', rfl, hx, hv, hR', hk3⟩
      have hput := hk.put hn inv hst hin hst0
      simp only [putT] at hput
      have hends : tsP l vs (h1 ++ g :: (h2 ++ [i])) ts = tsP l vs (h1 ++ g :: h2) ts := by
        rw [show h1 ++ g :: (h2 ++ [i]) = (h1 ++ g :: h2) ++ [i] by simp, tsP_append]
        simp only [tsP, hst0, putT]
      refine head_last (m := m') (L := L') hk hs hn hd (ts := ts) (vs := vs) ?_ (df := df) ?_ f _ _ _ _ (hk.cnt hun hin hc) (inv.set hi hin) (by simp [hil]) hput (by rw [put_defers]; exact hdf) (by
          have := (hr.ext hx).put none hv
          simp only at hdst
          rw [← hdst]; exact this) hR'
      · intro q1 j q2 dj he hdj hpu
        have hj1 : j ∈ h1 := by rw [he]; simp
        have hnd := filterMap_nodup_left hk.nd
        refine StepQ.pure hpu (hvs q1 j (q2 ++ g :: (h2 ++ [i])) dj (by rw [he]; simp) (fun h => hnd.2.2.1 (by rw [← h]; exact hj1)) (fun h => hnd.2.2.2.2 j hj1 (by rw [h]; simp)) hdj) _
      · intro a w hdf hr hR
        rw [hends] at hr
        exact hfin L' m' a w hx hk3 hdf hr hR
    · obtain ⟨q1, q2, he⟩ := List.append_of_mem (hk.all i hin)
      have hs1 := hvs q1 i q2 d he hig his hd1
      refine step_sound ho hd2 hr hR (hs1.congr (hk.agree hn inv hst ho hun hafter hd1 he)) fun cv w' hv hR' => ?_
      have hgl' : (listed.setIfInBounds i true).getD g true = true := by rw [getD_set_ne true hig]; exact hgl
      have hsl' : (listed.setIfInBounds i true).getD s true = false := by rw [getD_set_ne true his]; exact hsl
      exact ih _ _ _ _ (hk.cnt hun hin hc) (inv.set hi hin) hgl' hsl' (hk.put hn inv hst hin hd1) (by rw [put_defers]; exact hdf) (by rw [← hdst]; exact hr.put _ hv) hR'
/-- ahead of the operation that grows -/
theorem head_first (hk : GOk ops l (s + 1) g s h1 (h2 ++ [s])) (hs : SOk ops l s h1) (hn : s + 1 ≤ l.length) (hd : ∀ (i : Nat) (o : Oper), ops[i]? = some o → ∃ d, l[i]? = some d ∧ decOper P ops o = some d)
    {st : DOp} (hst0 : l[s]? = some ⟨none, none, st⟩)
    {ts : TS} {vs : Nat → AV} (hvs : ∀ q1 i q2 d, h1 = q1 ++ i :: q2 → l[i]? = some d → StepS P w0 m d (tsP l vs q1 ts) (vs i)) {dst : Option Nat} {op : DOp} (hg : l[g]? = some ⟨dst, none, op⟩)
    {K3 : TS → MS → Prop} (hop : aop P w0 op (tsP l vs h1 ts) m fun v m' => GrowLeaf m m' (qops P w0 (h2.filterMap (l[·]?)) (putT (tsP l vs h1 ts) dst v) m' fun ts => aop P w0 st ts m' fun _ m' => K3 ts m')) {df : List Deferred}
    (hfin : ∀ (L' : Locs) (m' : MS) (ts' : TS) a w, Ext L L' → K3 ts' m' → a.defers = df → RelT L' ts' a → Rep w0 ow L' m' w → wpList P ops Q (ops.toList.drop (s + 1)) a w) :
    ∀ (f : Nat) (listed : Array Bool) (a : Act) (w : World) (tl : TS), Fw.cnt listed (s + 1) = f → HeadInv .any ops (s + 1) listed → listed.getD g true = false → St (l.take (s + 1)) ts vs (fun j => listed.getD j true = true) tl → a.defers = df → RelT L tl a → Rep w0 ow L m w →
      wpAny P .any ops Q (f + (ops.size - (s + 1))) listed a w := by
  obtain ⟨nd1, nd2, ng1, ng2, nd12⟩ := filterMap_nodup_left hk.nd
  have hgn : g < s + 1 := hk.lt g (by simp)
  intro f
  induction f with
  | zero =>
    intro listed a w tl hc inv hgl hst hdf hr hR
    have := cnt_zero (s + 1) hc g hgn
    rw [hgl] at this; cases this
  | succ f ih =>
    intro listed a w tl hc inv hgl hst hdf hr hR
    obtain ⟨j0, hj0⟩ := hk.ready g hgn hgl
    rw [show f + 1 + (ops.size - (s + 1)) = (f + (ops.size - (s + 1))) + 1 by omega]
    refine ⟨fun h0 => by rw [h0] at hj0; simp at hj0, fun i hi => ?_⟩
    obtain ⟨hun, o, ho, hafter⟩ := mem_ready.1 hi
    have hio : i < ops.size := by
      rcases Nat.lt_or_ge i ops.size with h' | h'
      · exact h'
      · rw [Array.getElem?_eq_none h'] at ho; cases ho
    have hin := hk.inHead inv hgn hgl hi hio
    obtain ⟨d, hd1, hd2⟩ := hd i o ho
    have hdst := (decOper_parts hd2).1
    have hni2 : i ∉ h2 ++ [s] := fun h => hk.late inv hgl i h o ho hafter
    by_cases hig : i = g
    · subst hig
      rw [hg] at hd1; cases hd1
      have hag := hk.agree hn inv hst ho hun hafter hg (q1 := h1) (q2 := h2 ++ [s]) rfl
      have hop' : aop P w0 op tl m fun v m' => GrowLeaf m m' (qops P w0 (h2.filterMap (l[·]?)) (putT (tsP l vs h1 ts) dst v) m' fun ts => aop P w0 st ts m' fun _ m' => K3 ts m') := by
        rw [← aop_congr (ts := tsP l vs h1 ts)]
        · exact hop
        · intro r hr'; exact hag r (by simpa [readsD] using hr')
      unfold wpOp
      simp only [ho]
      rw [wanted_sound hd2 hr (r := true) rfl, if_pos rfl]
      have e2 := (decOper_parts hd2).2.1
      simp only at e2
      rw [e2] at hop'
      obtain ⟨dd, hdd1, hdd2⟩ := bad_false hop'
      refine .inl (Oper.wp_mono ?_ (aop_sound (Q := Q) hR hr hdd1 hdd2))
      rintro a' w' ⟨cv, av, m', L', rfl, hx, hv, hR', hgr⟩
      obtain ⟨⟨e, rfl⟩, hq⟩ := hgr.out
      obtain ⟨nd3, nd4, ng3, _, _⟩ := filterMap_nodup_left (a := h2) (b := []) (x := s) nd2
      obtain ⟨vs2, g3, g4⟩ := run_gen (l := l) (S := fun d ts v => StepQ P w0 (m ++ [e]) d ts v) (A := fun q ts K => qops P w0 q ts (m ++ [e]) K) (fun ts K h => h)
        (fun d rest ts K hq h => qops_cons hq h) h2 _ (fun j hj => by
          obtain ⟨dj, hdj, hqj⟩ := hk.has j (hk.lt j (by simp [hj]))
          exact ⟨dj, hdj, hqj (fun h => ng2 (by rw [← h]; simp [hj])) (fun h => ng3 (by rw [← h]; exact hj))⟩) nd3 hq
      -- all values
      have hv1 : ∀ j ∈ h1, (if j = i then av else if j ∈ h2 then vs2 j else vs j) = vs j := fun j hj => by
        rw [if_neg (fun h => ng1 (by rw [← h]; exact hj)), if_neg (fun h => nd12 j hj (by simp [h]))]
      have hv2 : ∀ j ∈ h2, (if j = i then av else if j ∈ h2 then vs2 j else vs j) = vs2 j := fun j hj => by
        rw [if_neg (fun h => ng2 (by rw [← h]; simp [hj])), if_pos hj]
      have hts : ∀ q3, (∀ j ∈ q3, j ∈ h2) → tsP l (fun j => if j = i then av else if j ∈ h2 then vs2 j else vs j) (h1 ++ i :: q3) ts = tsP l vs2 q3 (putT (tsP l vs h1 ts) dst av) := by
        intro q3 hq3
        rw [tsP_append]
        simp only [tsP, hg, if_true]
        rw [tsP_congr h1 ts hv1, tsP_congr q3 _ fun j hj => hv2 j (hq3 j hj)]
      have hlist : ∀ j d, (l.take (s + 1))[j]? = some d → listed.getD j true = true → (if j = i then av else if j ∈ h2 then vs2 j else vs j) = vs j := by
        intro j d hj hlj
        have hjn := getElem?_lt hj
        rw [List.length_take] at hjn
        have hjn' : j < s + 1 := by omega
        rcases List.mem_append.1 (hk.all j hjn') with h | h
        · exact hv1 j h
        · rcases List.mem_cons.1 h with h | h
          · subst h; rw [hgl] at hlj; cases hlj
          · obtain ⟨oj, hoj⟩ : ∃ oj, ops[j]? = some oj := ⟨ops[j]'(by have := hk.le; omega), Array.getElem?_eq_getElem _⟩
            have hjs : j < listed.size := by rw [inv.size]; have := hk.le; omega
            exact absurd (fun e' he1' he2' => inv.closed j oj hoj (by simpa [hjs] using hlj) e' he1' he2') (hk.late inv hgl j h oj hoj)
      have hst' := (hst.weaken (vs' := fun j => if j = i then av else if j ∈ h2 then vs2 j else vs j) hlist)
      have hil : i < listed.size := by rw [inv.size]; exact hio
      have hput := hk.put hn inv hst' hin hg
      simp only [if_true] at hput
      have hsl : listed.getD s true = false := by
        cases hx : listed.getD s true with
        | false => rfl
        | true =>
          obtain ⟨os, hos⟩ : ∃ os, ops[s]? = some os := ⟨ops[s]'(by have := hk.le; omega), Array.getElem?_eq_getElem _⟩
          have hjs : s < listed.size := by rw [inv.size]; have := hk.le; omega
          exact absurd (fun e' he1' he2' => inv.closed s os hos (by simpa [hjs] using hx) e' he1' he2') (hk.late inv hgl s (by simp) os hos)
      have his : i ≠ s := fun h => ng2 (by rw [h]; simp)
      refine head_mid (m := m ++ [e]) (L := L') hk hs hn hd hst0 (vs := fun j => if j = i then av else if j ∈ h2 then vs2 j else vs j) (ts := ts) ?_ (df := df) (K3 := fun m' => K3 (tsP l vs2 h2 (putT (tsP l vs h1 ts) dst av)) m') ?_ ?_ f _ _ _ _ (hk.cnt hun hin hc) (inv.set hi hin) (by simp [hil]) (by rw [getD_set_ne true his]; exact hsl) hput (by rw [put_defers]; exact hdf) (by rw [← hdst]; exact (hr.ext hx).put _ hv) hR'
      · intro q1 j q2 dj he hji hjs hdj
        have hjm : j ∈ h1 ++ i :: (h2 ++ [s]) := by rw [he]; simp
        by_cases hj1 : j ∈ h1
        · obtain ⟨q3, hq3⟩ := cut_at (nd12 j hj1) hji he
          have := hvs q1 j q3 dj hq3 hdj [e]
          rw [tsP_congr (vs' := vs) q1 ts fun k hk' => hv1 k (by rw [hq3]; simp [hk'])]
          rw [hv1 j hj1]
          exact this
        · obtain ⟨q3, rfl, hq3⟩ := cut_late hj1 hji he
          have hj2 : j ∈ h2 := by
            have : j ∈ h2 ++ [s] := by rw [hq3]; simp
            rcases List.mem_append.1 this with h | h
            · exact h
            · simp at h; exact absurd h hjs
          obtain ⟨q4, hq4⟩ := cut_at (a := h2) (b := []) (x := s) (by simp) hjs hq3
          rw [hts q3 fun k hk' => by rw [hq4]; simp [hk']]
          rw [hv2 j hj2]
          exact g3 q3 j q4 dj hq4 hdj
      · rw [hts h2 fun _ h => h]; exact g4
      · intro L'' m'' a w hx' hk3 hdf hr hR
        rw [hts h2 fun _ h => h] at hr
        exact hfin L'' _ _ a w (hx.trans hx') hk3 hdf hr hR
    · have hi1 : i ∈ h1 := by
        rcases List.mem_append.1 (hk.all i hin) with h | h
        · exact h
        · rcases List.mem_cons.1 h with h | h
          · exact absurd h hig
          · exact absurd h hni2
      obtain ⟨q1, q2, he⟩ := List.append_of_mem hi1
      have hs1 := hvs q1 i q2 d he hd1 []
      rw [List.append_nil] at hs1
      have hag := hk.agree hn inv hst ho hun hafter hd1 (q1 := q1) (q2 := q2 ++ g :: (h2 ++ [s])) (by rw [he]; simp)
      refine step_sound ho hd2 hr hR (hs1.congr hag) fun cv w' hv hR' => ?_
      have hgl' : (listed.setIfInBounds i true).getD g true = false := by rw [getD_set_ne true hig]; exact hgl
      exact ih _ _ _ _ (hk.cnt hun hin hc) (inv.set hi hin) hgl' (hk.put hn inv hst hin hd1) (by rw [put_defers]; exact hdf) (by rw [← hdst]; exact hr.put _ hv) hR'
theorem region_s {L0 : Locs} {ts : TS} {a : Act} {w : World} {K : TS → MS → Prop} {id : Nat} (hm : P.follows .mixedOrders = true) (hd : allSome (decOper P ops) ops.toList = some l)
    {dst : Option Nat} {op st : DOp} (hg : l[g]? = some ⟨dst, none, op⟩) (hst0 : l[s]? = some ⟨none, none, st⟩) (hck : checkG ops l (s + 1) g s h1 (h2 ++ [s]) = true) (hla : lateB ops l s h1 = true) (hx : Ext L0 L) (hdf : a.defers = []) (hr : RelT L ts a) (hR : Rep w0 ow L m w)
    (h : qopsS P w0 (h1.filterMap (l[·]?)) ts m fun ts => aop P w0 op ts m fun v m' => GrowLeaf m m' (putK ts dst v fun ts => qops P w0 (h2.filterMap (l[·]?)) ts m' fun ts => aop P w0 st ts m' fun _ m' => aops P w0 L0.length (l.drop (s + 1)) ts m' K)) (hQ : ∀ a w, Good w0 ow L0 K a w → Q .normal a w) : (Code.region id ops true).wp P Q a w := by
  have hk := checkG_sound hck
  obtain ⟨nd1, nd2, ng1, ng2, nd12⟩ := filterMap_nodup_left hk.nd
  obtain ⟨hlen, hget⟩ := allSome_get hd
  have hn : s + 1 ≤ l.length := by have := hk.le; simp at hlen; omega
  have hgn : g < s + 1 := hk.lt g (by simp)
  obtain ⟨vs, g3, g4⟩ := run_gen (l := l) (S := fun d ts v => StepS P w0 m d ts v) (A := fun q ts K => qopsS P w0 q ts m K) (fun ts K h => h)
    (fun d rest ts K hq h => qopsS_cons hq h) h1 _ (fun j hj => by
      obtain ⟨dj, hdj, hqj⟩ := hk.has j (hk.lt j (by simp [hj]))
      exact ⟨dj, hdj, hqj (fun h => ng1 (by rw [← h]; exact hj)) (fun h => nd12 j hj (by rw [h]; simp))⟩) nd1 h
  simp only [putK_eq] at g4
  refine wp_region_any hm ?_
  have := head_first (P := P) (w0 := w0) (ow := ow) (Q := Q) (L := L) (m := m) hk (lateB_ok hla) hn (fun i o ho => hget i o (by simpa using ho)) hst0 g3 hg (K3 := fun ts m' => aops P w0 L0.length (l.drop (s + 1)) ts m' K) g4 (df := [])
    (fun L' m' ts' a w hx' hK hdf hr hR => aops_list hQ _ _ L' _ m' a w (allSome_drop (s + 1) hd) (hx.trans hx') hdf hr hR hK)
    (s + 1) (Array.replicate ops.size false) a w.drew ts (cnt_all _ hk.le)
    ⟨by simp, fun j oj _ hl => (by rw [getD_replicate_false] at hl; cases hl), fun t _ ht => getD_in (by simpa using ht) (getD_replicate_false _ _)⟩
    (getD_in (by have := hk.le; simp; omega) (getD_replicate_false _ _))
    ⟨rfl, fun r j d hr hj hdd hs => ?_, fun _ _ _ => rfl⟩ hdf hr hR.drew
  · rw [show s + 1 + (ops.size - (s + 1)) = ops.size by have := hk.le; omega] at this
    exact this
  · have := getElem?_lt hj
    rw [List.length_take] at this
    have hh := hk.le
    rw [getD_in (by simp; omega) (getD_replicate_false _ _)] at hs
    cases hs
theorem decS_sound {L0 : Locs} {ts : TS} {a : Act} {w : World} {id : Nat} {d : DCode} {K : DExit → TS → MS → Prop} (hm : P.follows .mixedOrders = true) (hd : allSome (decOper P ops) ops.toList = some l)
    (h : decS ops l s g = some d) (hx : Ext L0 L) (hdf : a.defers = []) (hr : RelT L ts a) (hR : Rep w0 ow L m w) (hw : awp P w0 L0.length d ts m K) (hQ : ∀ a w, Good w0 ow L0 (K .normal) a w → Q .normal a w) : (Code.region id ops true).wp P Q a w := by
  unfold decS at h
  split at h
  · rename_i dst op st hg hst
    simp only at h
    split at h
    · rename_i hck
      cases h
      simp only [Bool.and_eq_true] at hck
      simp only [awp] at hw
      exact region_s hm hd hg hst hck.1.1 hck.1.2 hx hdf hr hR hw hQ
    · cases h
  · cases h
end
end Go.Fw
