import Derived.Test.YtfkbgfpidolhhaaFwReg5
namespace Go.Fw
open Go
section
variable {P : Program} {w0 : World} {ow : List Nat} {Q : Exit → Act → World → Prop}
variable {L : Locs} {m : MS}
variable {ops : Array Oper} {l : List DOper} {n g s : Nat} {h1 h2 : List Nat}
theorem filterMap_nodup_left {a b : List Nat} {x : Nat} (h : (a ++ x :: b).Nodup) : a.Nodup ∧ b.Nodup ∧ x ∉ a ∧ x ∉ b ∧ ∀ i ∈ a, i ∉ b := by
  rw [List.nodup_append] at h
  obtain ⟨h1, h2, h3⟩ := h
  rw [List.nodup_cons] at h2
  exact ⟨h1, h2.2, fun hx => h3 x hx x (by simp) rfl, h2.1, fun i hi hb => h3 i hi i (by simp [hb]) rfl⟩
theorem cut_at {a q1 q2 b : List Nat} {x i : Nat} (hne : i ∉ b) (hx : i ≠ x) (h : a ++ x :: b = q1 ++ i :: q2) : ∃ q3, a = q1 ++ i :: q3 := by
  rcases List.append_eq_append_iff.1 h with ⟨c, h1, h2⟩ | ⟨c, h1, h2⟩
  · cases c with
    | nil =>
      simp only [List.nil_append, List.cons.injEq] at h2
      exact absurd h2.1.symm hx
    | cons y c =>
      simp only [List.cons_append, List.cons.injEq] at h2
      exact absurd (by rw [h2.2]; simp) hne
  · cases c with
    | nil =>
      simp only [List.nil_append, List.cons.injEq] at h2
      exact absurd h2.1 hx
    | cons y c =>
      simp only [List.cons_append, List.cons.injEq] at h2
      obtain ⟨rfl, h2⟩ := h2
      exact ⟨c, h1⟩
theorem cut_late {a q1 q2 b : List Nat} {x i : Nat} (hne : i ∉ a) (hx : i ≠ x) (h : a ++ x :: b = q1 ++ i :: q2) : ∃ q3, q1 = a ++ x :: q3 ∧ b = q3 ++ i :: q2 := by
  rcases List.append_eq_append_iff.1 h with ⟨c, h1, h2⟩ | ⟨c, h1, h2⟩
  · cases c with
    | nil =>
      simp only [List.nil_append, List.cons.injEq] at h2
      exact absurd h2.1.symm hx
    | cons y c =>
      simp only [List.cons_append, List.cons.injEq] at h2
      obtain ⟨rfl, h2⟩ := h2
      exact ⟨c, h1, h2⟩
  · cases c with
    | nil =>
      simp only [List.nil_append, List.cons.injEq] at h2
      exact absurd h2.1 hx
    | cons y c =>
      exact absurd (by rw [h1]; simp only [List.cons_append, List.cons.injEq] at h2; simp [h2.1]) hne
/-- ahead of the operation that grows -/
theorem head_early (hk : GOk ops l n g n h1 h2) (hn : n ≤ l.length) (hd : ∀ (i : Nat) (o : Oper), ops[i]? = some o → ∃ d, l[i]? = some d ∧ decOper P ops o = some d)
    {ts : TS} {vs : Nat → AV} (hvs : ∀ q1 i q2 d, h1 = q1 ++ i :: q2 → l[i]? = some d → StepS P w0 m d (tsP l vs q1 ts) (vs i)) {dst : Option Nat} {op : DOp} (hg : l[g]? = some ⟨dst, none, op⟩)
    {K2 : TS → MS → Prop} (hop : aop P w0 op (tsP l vs h1 ts) m fun v m' => GrowLeaf m m' (qops P w0 (h2.filterMap (l[·]?)) (putT (tsP l vs h1 ts) dst v) m' fun ts => K2 ts m')) {df : List Deferred}
    (hfin : ∀ (L' : Locs) (m' : MS) (ts' : TS) a w, Ext L L' → K2 ts' m' → a.defers = df → RelT L' ts' a → Rep w0 ow L' m' w → wpList P ops Q (ops.toList.drop n) a w) :
    ∀ (f : Nat) (listed : Array Bool) (a : Act) (w : World) (tl : TS), Fw.cnt listed n = f → HeadInv .any ops n listed → listed.getD g true = false → St (l.take n) ts vs (fun j => listed.getD j true = true) tl → a.defers = df → RelT L tl a → Rep w0 ow L m w →
      wpAny P .any ops Q (f + (ops.size - n)) listed a w := by
  obtain ⟨nd1, nd2, ng1, ng2, nd12⟩ := filterMap_nodup_left hk.nd
  have hgn : g < n := hk.lt g (by simp)
  intro f
  induction f with
  | zero =>
    intro listed a w tl hc inv hgl hst hdf hr hR
    have := cnt_zero n hc g hgn
    rw [hgl] at this; cases this
  | succ f ih =>
    intro listed a w tl hc inv hgl hst hdf hr hR
    obtain ⟨j0, hj0⟩ := hk.ready g hgn hgl
    rw [show f + 1 + (ops.size - n) = (f + (ops.size - n)) + 1 by omega]
    refine ⟨fun h0 => by rw [h0] at hj0; simp at hj0, fun i hi => ?_⟩
    obtain ⟨hun, o, ho, hafter⟩ := mem_ready.1 hi
    have hio : i < ops.size := by
      rcases Nat.lt_or_ge i ops.size with h' | h'
      · exact h'
      · rw [Array.getElem?_eq_none h'] at ho; cases ho
    have hin := hk.inHead inv hgn hgl hi hio
    obtain ⟨d, hd1, hd2⟩ := hd i o ho
    have hdst := (decOper_parts hd2).1
    have hni2 : i ∉ h2 := fun h => hk.late inv hgl i h o ho hafter
    by_cases hig : i = g
    · subst hig
      rw [hg] at hd1; cases hd1
      have hag := hk.agree hn inv hst ho hun hafter hg (q1 := h1) (q2 := h2) rfl
      have hop' : aop P w0 op tl m fun v m' => GrowLeaf m m' (qops P w0 (h2.filterMap (l[·]?)) (putT (tsP l vs h1 ts) dst v) m' fun ts => K2 ts m') := by
        rw [← aop_congr (ts := tsP l vs h1 ts)]
        · exact hop
        · intro r hr'; exact hag r (by simpa [readsD] using hr')
      unfold wpOp
      simp only [ho]
      rw [wanted_sound hd2 hr (r := true) rfl, if_pos rfl]
      have e2 := (decOper_parts hd2).2.1
      simp only at e2
      rw [e2] at hop'
      obtain ⟨dd, hdd1, hdd2⟩ := bad_false hop'
      refine .inl (Oper.wp_mono ?_ (aop_sound (Q := Q) hR hr hdd1 hdd2))
      rintro a' w' ⟨cv, av, m', L', rfl, hx, hv, hR', hgr⟩
      obtain ⟨⟨e, rfl⟩, hq⟩ := hgr.out
      obtain ⟨vs2, g3, g4⟩ := run_gen (l := l) (S := fun d ts v => StepQ P w0 (m ++ [e]) d ts v) (A := fun q ts K => qops P w0 q ts (m ++ [e]) K) (fun ts K h => h)
        (fun d rest ts K hq h => qops_cons hq h) h2 _ (fun j hj => by
          obtain ⟨dj, hdj, hqj⟩ := hk.has j (hk.lt j (by simp [hj]))
          exact ⟨dj, hdj, hqj (fun h => ng2 (by rw [← h]; exact hj)) (Nat.ne_of_lt (hk.lt j (by simp [hj])))⟩) nd2 hq
      -- all values
      have hv1 : ∀ j ∈ h1, (if j = i then av else if j ∈ h2 then vs2 j else vs j) = vs j := fun j hj => by
        rw [if_neg (fun h => ng1 (by rw [← h]; exact hj)), if_neg (nd12 j hj)]
      have hv2 : ∀ j ∈ h2, (if j = i then av else if j ∈ h2 then vs2 j else vs j) = vs2 j := fun j hj => by
        rw [if_neg (fun h => ng2 (by rw [← h]; exact hj)), if_pos hj]
      have hts : ∀ q3, (∀ j ∈ q3, j ∈ h2) → tsP l (fun j => if j = i then av else if j ∈ h2 then vs2 j else vs j) (h1 ++ i :: q3) ts = tsP l vs2 q3 (putT (tsP l vs h1 ts) dst av) := by
        intro q3 hq3
        rw [tsP_append]
        simp only [tsP, hg, if_true]
        rw [tsP_congr h1 ts hv1, tsP_congr q3 _ fun j hj => hv2 j (hq3 j hj)]
      have hlist : ∀ j d, (l.take n)[j]? = some d → listed.getD j true = true → (if j = i then av else if j ∈ h2 then vs2 j else vs j) = vs j := by
        intro j d hj hlj
        have hjn := getElem?_lt hj
        rw [List.length_take] at hjn
        have hjn' : j < n := by omega
        rcases List.mem_append.1 (hk.all j hjn') with h | h
        · exact hv1 j h
        · rcases List.mem_cons.1 h with h | h
          · subst h; rw [hgl] at hlj; cases hlj
          · obtain ⟨oj, hoj⟩ : ∃ oj, ops[j]? = some oj := ⟨ops[j]'(by have := hk.le; omega), Array.getElem?_eq_getElem _⟩
            have hjs : j < listed.size := by rw [inv.size]; have := hk.le; omega
            exact absurd (fun e' he1' he2' => inv.closed j oj hoj (by simpa [hjs] using hlj) e' he1' he2') (hk.late inv hgl j h oj hoj)
      have hst' := (hst.weaken (vs' := fun j => if j = i then av else if j ∈ h2 then vs2 j else vs j) hlist)
      have hil : i < listed.size := by rw [inv.size]; exact hio
      have hput := hk.put hn inv hst' hin hg
      simp only [if_true] at hput
      refine head_late (m := m ++ [e]) (L := L') hk hn hd (vs := fun j => if j = i then av else if j ∈ h2 then vs2 j else vs j) (ts := ts) ?_ (df := df) ?_ f _ _ _ _ (hk.cnt hun hin hc) (inv.set hi hin) (by simp [hil]) hput (by rw [put_defers]; exact hdf) (by rw [← hdst]; exact (hr.ext hx).put _ hv) hR'
      · intro q1 j q2 dj he hji hdj
        have hjm : j ∈ h1 ++ i :: h2 := by rw [he]; simp
        by_cases hj1 : j ∈ h1
        · obtain ⟨q3, hq3⟩ := cut_at (nd12 j hj1) hji he
          have := hvs q1 j q3 dj hq3 hdj [e]
          rw [tsP_congr (vs' := vs) q1 ts fun k hk' => hv1 k (by rw [hq3]; simp [hk'])]
          rw [hv1 j hj1]
          exact this
        · obtain ⟨q3, rfl, hq3⟩ := cut_late hj1 hji he
          have hj2 : j ∈ h2 := by rw [hq3]; simp
          rw [hts q3 fun k hk' => by rw [hq3]; simp [hk']]
          rw [hv2 j hj2]
          exact g3 q3 j q2 dj hq3 hdj
      · intro a w hdf hr hR
        rw [hts h2 fun _ h => h] at hr
        exact hfin L' _ _ a w hx g4 hdf hr hR
    · have hi1 : i ∈ h1 := by
        rcases List.mem_append.1 (hk.all i hin) with h | h
        · exact h
        · rcases List.mem_cons.1 h with h | h
          · exact absurd h hig
          · exact absurd h hni2
      obtain ⟨q1, q2, he⟩ := List.append_of_mem hi1
      have hs := hvs q1 i q2 d he hd1 []
      rw [List.append_nil] at hs
      have hag := hk.agree hn inv hst ho hun hafter hd1 (q1 := q1) (q2 := q2 ++ g :: h2) (by rw [he]; simp)
      refine step_sound ho hd2 hr hR (hs.congr hag) fun cv w' hv hR' => ?_
      have hgl' : (listed.setIfInBounds i true).getD g true = false := by rw [getD_set_ne true hig]; exact hgl
      exact ih _ _ _ _ (hk.cnt hun hin hc) (inv.set hi hin) hgl' (hk.put hn inv hst hin hd1) (by rw [put_defers]; exact hdf) (by rw [← hdst]; exact hr.put _ hv) hR'
theorem region_g {L0 : Locs} {ts : TS} {a : Act} {w : World} {K : TS → MS → Prop} {id : Nat} (hm : P.follows .mixedOrders = true) (hd : allSome (decOper P ops) ops.toList = some l)
    {dst : Option Nat} {op : DOp} (hg : l[g]? = some ⟨dst, none, op⟩) (hck : checkG ops l n g n h1 h2 = true) (hx : Ext L0 L) (hdf : a.defers = []) (hr : RelT L ts a) (hR : Rep w0 ow L m w)
    (h : qopsS P w0 (h1.filterMap (l[·]?)) ts m fun ts => aop P w0 op ts m fun v m' => GrowLeaf m m' (putK ts dst v fun ts => qops P w0 (h2.filterMap (l[·]?)) ts m' fun ts => aops P w0 L0.length (l.drop n) ts m' K)) (hQ : ∀ a w, Good w0 ow L0 K a w → Q .normal a w) : (Code.region id ops true).wp P Q a w := by
  have hk := checkG_sound hck
  obtain ⟨nd1, nd2, ng1, ng2, nd12⟩ := filterMap_nodup_left hk.nd
  obtain ⟨hlen, hget⟩ := allSome_get hd
  have hn : n ≤ l.length := by have := hk.le; simp at hlen; omega
  have hgn : g < n := hk.lt g (by simp)
  obtain ⟨vs, g3, g4⟩ := run_gen (l := l) (S := fun d ts v => StepS P w0 m d ts v) (A := fun q ts K => qopsS P w0 q ts m K) (fun ts K h => h)
    (fun d rest ts K hq h => qopsS_cons hq h) h1 _ (fun j hj => by
      obtain ⟨dj, hdj, hqj⟩ := hk.has j (hk.lt j (by simp [hj]))
      exact ⟨dj, hdj, hqj (fun h => ng1 (by rw [← h]; exact hj)) (Nat.ne_of_lt (hk.lt j (by simp [hj])))⟩) nd1 h
  simp only [putK_eq] at g4
  refine wp_region_any hm ?_
  have := head_early (P := P) (w0 := w0) (ow := ow) (Q := Q) (L := L) (m := m) hk hn (fun i o ho => hget i o (by simpa using ho)) g3 hg (K2 := fun ts m' => aops P w0 L0.length (l.drop n) ts m' K) g4 (df := [])
    (fun L' m' ts' a w hx' hK hdf hr hR => aops_list hQ _ _ L' _ m' a w (allSome_drop n hd) (hx.trans hx') hdf hr hR hK)
    n (Array.replicate ops.size false) a w.drew ts (cnt_all _ hk.le)
    ⟨by simp, fun j oj _ hl => (by rw [getD_replicate_false] at hl; cases hl), fun t _ ht => getD_in (by simpa using ht) (getD_replicate_false _ _)⟩
    (getD_in (by have := hk.le; simp; omega) (getD_replicate_false _ _))
    ⟨rfl, fun r j d hr hj hdd hs => ?_, fun _ _ _ => rfl⟩ hdf hr hR.drew
  · rw [show n + (ops.size - n) = ops.size by have := hk.le; omega] at this
    exact this
  · have := getElem?_lt hj
    rw [List.length_take] at this
    have hh := hk.le
    rw [getD_in (by simp; omega) (getD_replicate_false _ _)] at hs
    cases hs
theorem decG_sound {L0 : Locs} {ts : TS} {a : Act} {w : World} {id : Nat} {d : DCode} {K : DExit → TS → MS → Prop} (hm : P.follows .mixedOrders = true) (hd : allSome (decOper P ops) ops.toList = some l)
    (h : decG ops l n g = some d) (hx : Ext L0 L) (hdf : a.defers = []) (hr : RelT L ts a) (hR : Rep w0 ow L m w) (hw : awp P w0 L0.length d ts m K) (hQ : ∀ a w, Good w0 ow L0 (K .normal) a w → Q .normal a w) : (Code.region id ops true).wp P Q a w := by
  unfold decG at h
  split at h
  · rename_i dst op hg
    simp only at h
    split at h
    · rename_i hck
      cases h
      simp only [awp] at hw
      exact region_g hm hd hg hck hx hdf hr hR hw hQ
    · cases h
  · cases h
end
end Go.Fw
