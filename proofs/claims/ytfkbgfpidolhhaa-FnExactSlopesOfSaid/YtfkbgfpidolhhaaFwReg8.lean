import Derived.Test.YtfkbgfpidolhhaaFwReg7
namespace Go.Fw
open Go
section
variable {P : Program} {w0 : World} {ow : List Nat} {Q : Exit → Act → World → Prop}
variable {L : Locs} {m : MS}
structure POk (ops : Array Oper) (l : List DOper) (p : List Nat) : Prop where
  len : ops.size = l.length
  has : ∀ i, i < ops.size → ∃ d, l[i]? = some d
  down : ∀ i, i < ops.size → ∀ j ∈ waitsOn ops i, j < i
  uniq : ∀ i j d e, i < ops.size → j < ops.size → l[i]? = some d → l[j]? = some e → j ≠ i → e.dst = d.dst → d.dst = none
  all : ∀ i, i < ops.size → i ∈ p
  lt : ∀ i, i ∈ p → i < ops.size
  nd : p.Nodup
  reads : ∀ q1 i q2 d, p = q1 ++ i :: q2 → l[i]? = some d → ∀ r ∈ readsD d, (∀ j ∈ q1, wrD l r j = true → j ∈ waitsOn ops i) ∧ (∀ j ∈ q2, wrD l r j = true → i ∈ waitsOn ops j)
theorem checkSeg_sound {ops : Array Oper} {l : List DOper} {segs : List (List Nat × Nat)} {last : List Nat} (hlen : ops.size = l.length) (h : checkSeg ops l segs last = true) : POk ops l (flatS segs last) ∧ segOk ops l [] segs last = true := by
  unfold checkSeg at h
  simp only [Bool.and_eq_true] at h
  obtain ⟨⟨⟨⟨⟨a2, a3⟩, a4⟩, a5⟩, a7⟩, a8⟩ := h
  have key : ∀ i, i < ops.size → ∃ d, l[i]? = some d ∧ (∀ j ∈ waitsOn ops i, j < i) ∧ (∀ j, j < ops.size → j = i ∨ (match l[j]? with | some dj => d.dst.isNone || dj.dst != d.dst | none => true) = true) := by
    intro i hi
    have := List.all_eq_true.1 a2 i (List.mem_range.2 hi)
    unfold hasD at this
    split at this
    · rename_i d hd
      simp only [Bool.and_eq_true, List.all_eq_true, decide_eq_true_eq, List.mem_range, Bool.or_eq_true, beq_iff_eq] at this
      exact ⟨d, hd, this.1, this.2⟩
    · cases this
  refine ⟨⟨hlen, ?_, ?_, ?_, ?_, ?_, nodupB_ok a5, ?_⟩, a8⟩
  · intro i hi
    obtain ⟨d, hd, _⟩ := key i hi
    exact ⟨d, hd⟩
  · intro i hi
    obtain ⟨d, hd, h2, _⟩ := key i hi
    exact h2
  · intro i j d e hi hj hd he hne hde
    obtain ⟨d', hd', _, h3⟩ := key i hi
    rw [hd] at hd'; cases hd'
    rcases h3 j hj with h | h
    · exact absurd h hne
    · rw [he] at h
      simp only [Bool.or_eq_true, bne_iff_ne, Option.isNone_iff_eq_none] at h
      rcases h with h | h
      · exact h
      · exact absurd hde h
  · intro i hi
    exact List.contains_iff_mem.1 (List.all_eq_true.1 a3 i (List.mem_range.2 hi))
  · intro i hi
    simpa using List.all_eq_true.1 a4 i hi
  · intro q1 i q2 d he hd r hr
    have := readsP_ok [] _ a7 q1 i q2 d he hd r hr
    exact ⟨fun j hj => this.1 j (by simpa using hj), this.2⟩
section
variable {ops : Array Oper} {l : List DOper} {p : List Nat}
theorem POk.ready (hk : POk ops l p) {listed : Array Bool} : ∀ (i : Nat), i < ops.size → listed.getD i true = false → ∃ j, j ∈ Region.ready .any ops listed := by
  intro i
  induction i using Nat.strongRecOn with
  | _ i ih =>
    intro hi hl
    have hio : ∃ o, ops[i]? = some o := ⟨ops[i]'hi, Array.getElem?_eq_getElem _⟩
    obtain ⟨o, ho⟩ := hio
    by_cases hall : ∀ e ∈ o.after, Region.binds .any e = true → listed.getD e.on false = true
    · exact ⟨i, mem_ready.2 ⟨hl, o, ho, hall⟩⟩
    · have : ∃ e, e ∈ o.after ∧ Region.binds .any e = true ∧ listed.getD e.on false = false := by
        apply Classical.byContradiction
        intro hno
        apply hall
        intro e he hb
        cases hx : listed.getD e.on false with
        | true => rfl
        | false => exact absurd ⟨e, he, hb, hx⟩ hno
      obtain ⟨e, he, hb, hx⟩ := this
      have hlt := hk.down i hi e.on ((mem_waitsOn ho).2 ⟨e, he, hb, rfl⟩)
      have hx' : listed.getD e.on true = false ∨ listed.getD e.on true = true := by cases listed.getD e.on true <;> simp
      rcases hx' with h' | h'
      · exact ih e.on hlt (by omega) h'
      · have hsz : i < listed.size := by
          rcases Nat.lt_or_ge i listed.size with g | g
          · exact g
          · simp [Array.getElem?_eq_none g] at hl
        have : e.on < listed.size := by omega
        simp [this] at hx h'
        rw [hx] at h'; cases h'
theorem POk.uniqD (hk : POk ops l p) : UniqD (l.take ops.size) := by
  intro i j d e hi hj hne he
  have a1 := getElem?_lt hi
  have a2 := getElem?_lt hj
  rw [List.length_take] at a1 a2
  rw [List.getElem?_take, if_pos (by omega)] at hi hj
  exact hk.uniq i j d e (by omega) (by omega) hi hj hne he
theorem POk.agree (hk : POk ops l p) {listed : Array Bool} (inv : HeadInv .any ops ops.size listed) {ts tl : TS} {vs : Nat → AV} (hst : St (l.take ops.size) ts vs (fun j => listed.getD j true = true) tl)
    {i : Nat} {o : Oper} {d : DOper} (ho : ops[i]? = some o) (hun : listed.getD i true = false) (hafter : ∀ e ∈ o.after, Region.binds .any e = true → listed.getD e.on false = true) (hd : l[i]? = some d)
    {q1 q2 : List Nat} (he : p = q1 ++ i :: q2) : ∀ r ∈ readsD d, getL (tsP l vs q1 ts) r = getL tl r := by
  intro r hr
  have hlt : ∀ j ∈ q1, j < ops.size := fun j hj => hk.lt j (by rw [he]; simp [hj])
  refine (St.textP0 hk.uniqD q1 hlt).agree hst fun j e hj hde => ?_
  have hjn := getElem?_lt hj
  rw [List.length_take] at hjn
  have hjn' : j < ops.size := by omega
  rw [List.getElem?_take, if_pos hjn'] at hj
  have hw : wrD l r j = true := by unfold wrD; rw [hj]; simp [hde]
  obtain ⟨g1, g2⟩ := hk.reads q1 i q2 d he hd r hr
  have hjs : j < listed.size := by rw [inv.size]; omega
  constructor
  · intro hjq
    obtain ⟨ed, he1, he2, he3⟩ := (mem_waitsOn ho).1 (g1 j hjq hw)
    have := hafter ed he1 he2
    rw [he3] at this
    simpa [hjs] using this
  · intro hlj
    have hmem := hk.all j hjn'
    rw [he] at hmem
    rcases List.mem_append.1 hmem with h | h
    · exact h
    · rcases List.mem_cons.1 h with h | h
      · subst h; rw [hun] at hlj; cases hlj
      · obtain ⟨oj, hoj⟩ : ∃ oj, ops[j]? = some oj := ⟨ops[j]'hjn', Array.getElem?_eq_getElem _⟩
        obtain ⟨ed, he1, he2, he3⟩ := (mem_waitsOn hoj).1 (g2 j h hw)
        have hlj' : listed.getD j false = true := by simpa [hjs] using hlj
        have := inv.closed j oj hoj hlj' ed he1 he2
        rw [he3, getD_both hun] at this
        cases this
theorem POk.put (hk : POk ops l p) {listed : Array Bool} (inv : HeadInv .any ops ops.size listed) {ts tl : TS} {vs : Nat → AV} (hst : St (l.take ops.size) ts vs (fun j => listed.getD j true = true) tl)
    {i : Nat} {d : DOper} (hin : i < ops.size) (hd : l[i]? = some d) : St (l.take ops.size) ts vs (fun j => (listed.setIfInBounds i true).getD j true = true) (putT tl d.dst (vs i)) := by
  have hdt : (l.take ops.size)[i]? = some d := by rw [List.getElem?_take, if_pos hin]; exact hd
  have hil : i < listed.size := by rw [inv.size]; exact hin
  refine hst.step hdt (fun j => ?_) (fun j e hj hne he => hk.uniqD i j d e hdt hj hne he)
  by_cases hji : j = i
  · subst hji; simp [hil]
  · rw [getD_set_ne true (Ne.symm hji)]
    constructor
    · exact .inl
    · rintro (h | h)
      · exact h
      · exact absurd h hji
theorem cnt_down {listed : Array Bool} {n i f : Nat} (hun : listed.getD i true = false) (hin : i < n) (hc : Fw.cnt listed n = f + 1) : Fw.cnt (listed.setIfInBounds i true) n = f := by
  have := cnt_set hun n hin
  omega
/-- what waits for a store, or for what does, comes behind it -/
theorem late_any {T : List Nat} {s : Nat} (hdown : ∀ i, i < ops.size → ∀ j ∈ waitsOn ops i, j < i) (hT : (T.all fun j => (waitsOn ops j).any fun x => x == s || T.contains x) = true) (hlt : ∀ i ∈ T, i < ops.size)
    {listed : Array Bool} (inv : HeadInv .any ops ops.size listed) (hsl : listed.getD s true = false) : ∀ (i : Nat), i ∈ T → ∀ o, ops[i]? = some o → ¬ (∀ e ∈ o.after, Region.binds .any e = true → listed.getD e.on false = true) := by
  intro i
  induction i using Nat.strongRecOn with
  | _ i ih =>
    intro hi o ho hall
    have := List.all_eq_true.1 hT i hi
    obtain ⟨j, hj, hjg⟩ := List.any_eq_true.1 this
    simp only [Bool.or_eq_true, beq_iff_eq, List.contains_iff_mem] at hjg
    obtain ⟨e, he1, he2, he3⟩ := (mem_waitsOn ho).1 hj
    have hl := hall e he1 he2
    rw [he3] at hl
    rcases hjg with rfl | hj2
    · rw [getD_both hsl] at hl; cases hl
    · have hji := hdown i (hlt i hi) j hj
      obtain ⟨oj, hoj⟩ : ∃ oj, ops[j]? = some oj := ⟨ops[j]'(hlt j hj2), Array.getElem?_eq_getElem _⟩
      exact ih j hji hj2 oj hoj fun e' he1' he2' => inv.closed j oj hoj hl e' he1' he2'
theorem storeAt_some {s : Nat} {op : DOp} (h : storeAt l s = some op) : l[s]? = some ⟨none, none, op⟩ := by
  unfold storeAt at h
  split at h
  · rename_i op' hs
    split at h
    · cases h; exact hs
    · cases h
  · cases h
theorem quietAt_ok {i : Nat} (h : quietAt l i = true) : ∃ d, l[i]? = some d ∧ quiet d.op = true := by
  unfold quietAt at h
  split at h
  · rename_i d hd; exact ⟨d, hd, h⟩
  · cases h
/-- what of the earlier part is still to come is pure -/
def Rest (P : Program) (w0 : World) (l : List DOper) (ts : TS) (vs : Nat → AV) (p0 : List Nat) (listed : Array Bool) : Prop :=
  ∀ q1 i q2 d, p0 = q1 ++ i :: q2 → l[i]? = some d → listed.getD i true = false → ∀ m, StepQ P w0 m d (tsP l vs q1 ts) (vs i)
theorem seg_any (hk : POk ops l p) (hd : ∀ (i : Nat) (o : Oper), ops[i]? = some o → ∃ d, l[i]? = some d ∧ decOper P ops o = some d) {ts : TS} {df : List Deferred} {K : TS → MS → Prop}
    (hfin : ∀ (L' : Locs) (m' : MS) (ts' : TS) a w, Ext L L' → K ts' m' → a.defers = df → RelT L' ts' a → Rep w0 ow L' m' w → Q .normal a w) :
    ∀ (segs : List (List Nat × Nat)) (last p0 : List Nat) (ds : List (List DOper × DOp)) (vs : Nat → AV) (L1 : Locs) (m : MS) (listed : Array Bool) (a : Act) (w : World) (tl : TS),
      p = p0 ++ flatS segs last → segOk ops l p0 segs last = true → allSome (fun (x : List Nat × Nat) => (storeAt l x.2).map fun op => (x.1.filterMap (l[·]?), op)) segs = some ds → Ext L L1 →
      segA P w0 ds (last.filterMap (l[·]?)) (tsP l vs p0 ts) m K → Rest P w0 l ts vs p0 listed → (∀ i, i < ops.size → listed.getD i true = true → i ∈ p0) → HeadInv .any ops ops.size listed →
      St (l.take ops.size) ts vs (fun j => listed.getD j true = true) tl → a.defers = df → RelT L1 tl a → Rep w0 ow L1 m w → wpAny P .any ops Q (Fw.cnt listed ops.size) listed a w := by
  intro segs
  induction segs with
  | nil =>
    intro last p0 ds vs L1 m listed a w tl hp hok hds hx hK hrest hsub inv hst hdf hr hR
    simp only [allSome, Option.some.injEq] at hds
    subst hds
    simp only [segA] at hK
    simp only [flatS] at hp
    simp only [segOk, List.all_eq_true] at hok
    have hnd : (p0 ++ last).Nodup := hp ▸ hk.nd
    obtain ⟨hnd0, hndq, hdis⟩ := List.nodup_append.1 hnd
    obtain ⟨vs2, g3, g4⟩ := run_gen (l := l) (S := fun d ts v => StepQ P w0 m d ts v) (A := fun q ts K => qops P w0 q ts m K) (fun ts K h => h)
      (fun d rest ts K hq h => qops_cons hq h) last _ (fun j hj => quietAt_ok (hok j hj)) hndq hK
    have hv0 : ∀ j ∈ p0, (if j ∈ last then vs2 j else vs j) = vs j := fun j hj => if_neg fun h => hdis j hj j h rfl
    have hvq : ∀ j ∈ last, (if j ∈ last then vs2 j else vs j) = vs2 j := fun j hj => if_pos hj
    have hts : ∀ q3, (∀ j ∈ q3, j ∈ last) → tsP l (fun j => if j ∈ last then vs2 j else vs j) (p0 ++ q3) ts = tsP l vs2 q3 (tsP l vs p0 ts) := fun q3 hq3 => by
      rw [tsP_append, tsP_congr p0 ts hv0, tsP_congr q3 _ fun j hj => hvq j (hq3 j hj)]
    have hst' := hst.weaken (vs' := fun j => if j ∈ last then vs2 j else vs j) (fun j d hj hlj => by
      have := getElem?_lt hj
      rw [List.length_take] at this
      exact hv0 j (hsub j (by omega) hlj))
    have hrest' : ∀ q1 i q2 d, p0 ++ last = q1 ++ i :: q2 → l[i]? = some d → listed.getD i true = false → StepQ P w0 m d (tsP l (fun j => if j ∈ last then vs2 j else vs j) q1 ts) (if i ∈ last then vs2 i else vs i) := by
      intro q1 i q2 d he hdi hun
      rcases List.append_eq_append_iff.1 he with ⟨c, e1, e2⟩ | ⟨c, e1, e2⟩
      · -- i lies in last
        have hil : i ∈ last := by rw [e2]; simp
        rw [e1, hts c fun k hk' => by rw [e2]; simp [hk'], hvq i hil]
        exact g3 c i q2 d e2 hdi
      · cases c with
        | nil =>
          simp only [List.append_nil] at e1
          have hil : i ∈ last := by
            have : i ∈ ([] : List Nat) ++ last := by rw [← e2]; simp
            simpa using this
          subst e1
          rw [tsP_congr p0 ts hv0, hvq i hil]
          have := g3 [] i q2 d (by simpa using e2.symm) hdi
          simpa [tsP] using this
        | cons y c =>
          simp only [List.cons_append, List.cons.injEq] at e2
          obtain ⟨rfl, e2⟩ := e2
          have hi0 : i ∈ p0 := by rw [e1]; simp
          rw [tsP_congr (vs' := vs) q1 ts fun k hk' => hv0 k (by rw [e1]; simp [hk']), hv0 i hi0]
          exact hrest q1 i c d e1 hdi hun m
    rw [← hts last fun _ h => h, ← hp] at g4
    replace hrest' : ∀ q1 i q2 d, p0 ++ last = q1 ++ i :: q2 → l[i]? = some d → listed.getD i true = false → StepQ P w0 m d (tsP l (fun j => if j ∈ last then vs2 j else vs j) q1 ts) ((fun j => if j ∈ last then vs2 j else vs j) i) := hrest'
    generalize (fun j => if j ∈ last then vs2 j else vs j) = vs' at hst' hrest' g4
    rw [← hp] at hrest'
    clear hK hrest hsub hst g3
    obtain ⟨f, hc⟩ : ∃ f, f = Fw.cnt listed ops.size := ⟨_, rfl⟩
    rw [← hc]
    induction f generalizing listed a w tl with
    | zero =>
      have hall := cnt_zero ops.size hc.symm
      have ht := St.textP0 (ts := ts) (vs := vs') hk.uniqD p hk.lt
      have htl : tl = tsP l vs' p ts := ext_getL (hst'.len.trans ht.len.symm) fun r => hst'.agree ht fun j d hj _ => by
        have := getElem?_lt hj
        rw [List.length_take] at this
        exact ⟨fun _ => hk.all j (by omega), fun _ => hall j (by omega)⟩
      subst htl
      refine ⟨?_, hfin L1 m _ a w hx g4 hdf hr hR⟩
      apply List.eq_nil_iff_forall_not_mem.2
      intro i hi
      obtain ⟨hun, o, ho, _⟩ := mem_ready.1 hi
      have hio : i < ops.size := by
        rcases Nat.lt_or_ge i ops.size with h' | h'
        · exact h'
        · rw [Array.getElem?_eq_none h'] at ho; cases ho
      rw [hall i hio] at hun; cases hun
    | succ f ih =>
      obtain ⟨i0, hi0, hl0⟩ := cnt_pos (listed := listed) ops.size (by omega)
      obtain ⟨j0, hj0⟩ := hk.ready i0 hi0 hl0
      refine ⟨fun h0 => by rw [h0] at hj0; simp at hj0, fun i hi => ?_⟩
      obtain ⟨hun, o, ho, hafter⟩ := mem_ready.1 hi
      have hio : i < ops.size := by
        rcases Nat.lt_or_ge i ops.size with h' | h'
        · exact h'
        · rw [Array.getElem?_eq_none h'] at ho; cases ho
      obtain ⟨d, hd1, hd2⟩ := hd i o ho
      obtain ⟨q1, q2, he⟩ := List.append_of_mem (hk.all i hio)
      have hs1 := hrest' q1 i q2 d he hd1 hun
      refine step_sound ho hd2 hr hR (hs1.congr (hk.agree inv hst' ho hun hafter hd1 he)) fun cv w' hv hR' => ?_
      have hdst := (decOper_parts hd2).1
      refine ih _ _ _ _ (inv.set hi hio) (by rw [put_defers]; exact hdf) (by rw [← hdst]; exact hr.put _ hv) hR' (hk.put inv hst' hio hd1) (fun q1 j q2 dj hej hdj hunj => ?_) (cnt_down hun hio hc.symm).symm
      refine hrest' q1 j q2 dj hej hdj ?_
      by_cases hji : i = j
      · subst hji
        have hil : i < listed.size := by rw [inv.size]; exact hio
        simp [hil] at hunj
      · rw [getD_set_ne true hji] at hunj; exact hunj
  | cons qs segs ihs =>
    intro last p0 ds vs L1 m listed a w tl hp hok hds hx hK hrest hsub inv hst hdf hr hR
    obtain ⟨q, s⟩ := qs
    simp only [allSome] at hds
    split at hds
    · rename_i x ds' hx1 hds'
      cases hds
      simp only [Option.map_eq_some_iff] at hx1
      obtain ⟨st, hst0, rfl⟩ := hx1
      have hs0 := storeAt_some hst0
      simp only [segA] at hK
      simp only [flatS] at hp
      simp only [segOk, Bool.and_eq_true, List.all_eq_true] at hok
      obtain ⟨⟨⟨⟨hok1, _⟩, hok2⟩, hok3⟩, hok4⟩ := hok
      have hnd : (p0 ++ (q ++ s :: flatS segs last)).Nodup := hp ▸ hk.nd
      obtain ⟨hnd0, hndq0, hdis0⟩ := List.nodup_append.1 hnd
      obtain ⟨hndq, hndr, hdisq⟩ := List.nodup_append.1 hndq0
      have hdis : ∀ j ∈ p0, j ∉ q := fun j hj h => hdis0 j hj j (by simp [h]) rfl
      have hsp0 : s ∉ p0 := fun h => hdis0 s h s (by simp) rfl
      have hsq : s ∉ q := fun h => hdisq s h s (by simp) rfl
      have hsn : s < ops.size := hk.lt s (by rw [hp]; simp)
      obtain ⟨vs2, g3, g4⟩ := run_gen (l := l) (S := fun d ts v => StepQ P w0 m d ts v) (A := fun q ts K => qops P w0 q ts m K) (fun ts K h => h)
        (fun d rest ts K hq h => qops_cons hq h) q _ (fun j hj => quietAt_ok (hok1 j hj)) hndq hK
      have hv0 : ∀ j ∈ p0, (if j ∈ q then vs2 j else vs j) = vs j := fun j hj => if_neg fun h => hdis j hj h
      have hvq : ∀ j ∈ q, (if j ∈ q then vs2 j else vs j) = vs2 j := fun j hj => if_pos hj
      have hts : ∀ q3, (∀ j ∈ q3, j ∈ q) → tsP l (fun j => if j ∈ q then vs2 j else vs j) (p0 ++ q3) ts = tsP l vs2 q3 (tsP l vs p0 ts) := fun q3 hq3 => by
        rw [tsP_append, tsP_congr p0 ts hv0, tsP_congr q3 _ fun j hj => hvq j (hq3 j hj)]
      have hst' := hst.weaken (vs' := fun j => if j ∈ q then vs2 j else vs j) (fun j d hj hlj => by
        have := getElem?_lt hj
        rw [List.length_take] at this
        exact hv0 j (hsub j (by omega) hlj))
      have hrest' : ∀ q1 i q2 d, p0 ++ q = q1 ++ i :: q2 → l[i]? = some d → listed.getD i true = false → StepQ P w0 m d (tsP l (fun j => if j ∈ q then vs2 j else vs j) q1 ts) (if i ∈ q then vs2 i else vs i) := by
        intro q1 i q2 d he hdi hun
        rcases List.append_eq_append_iff.1 he with ⟨c, e1, e2⟩ | ⟨c, e1, e2⟩
        · have hil : i ∈ q := by rw [e2]; simp
          rw [e1, hts c fun k hk' => by rw [e2]; simp [hk'], hvq i hil]
          exact g3 c i q2 d e2 hdi
        · cases c with
          | nil =>
            simp only [List.append_nil] at e1
            have hil : i ∈ q := by
              have : i ∈ ([] : List Nat) ++ q := by rw [← e2]; simp
              simpa using this
            subst e1
            rw [tsP_congr p0 ts hv0, hvq i hil]
            have := g3 [] i q2 d (by simpa using e2.symm) hdi
            simpa [tsP] using this
          | cons y c =>
            simp only [List.cons_append, List.cons.injEq] at e2
            obtain ⟨rfl, e2⟩ := e2
            have hi0 : i ∈ p0 := by rw [e1]; simp
            rw [tsP_congr (vs' := vs) q1 ts fun k hk' => hv0 k (by rw [e1]; simp [hk']), hv0 i hi0]
            exact hrest q1 i c d e1 hdi hun m
      rw [← hts q fun _ h => h] at g4
      replace hrest' : ∀ q1 i q2 d, p0 ++ q = q1 ++ i :: q2 → l[i]? = some d → listed.getD i true = false → StepQ P w0 m d (tsP l (fun j => if j ∈ q then vs2 j else vs j) q1 ts) ((fun j => if j ∈ q then vs2 j else vs j) i) := hrest'
      generalize (fun j => if j ∈ q then vs2 j else vs j) = vs' at hst' hrest' g4
      have hsl : listed.getD s true = false := by
        cases hx : listed.getD s true with
        | false => rfl
        | true => exact absurd (hsub s hsn hx) hsp0
      have hsub' : ∀ i, i < ops.size → listed.getD i true = true → i ∈ p0 ++ q := fun i hi hl => by simp [hsub i hi hl]
      clear hK hrest hsub hst g3
      obtain ⟨f, hc⟩ : ∃ f, f = Fw.cnt listed ops.size := ⟨_, rfl⟩
      rw [← hc]
      induction f generalizing listed a w tl with
      | zero =>
        have := cnt_zero ops.size hc.symm s hsn
        rw [hsl] at this; cases this
      | succ f ih =>
        obtain ⟨j0, hj0⟩ := hk.ready s hsn hsl
        refine ⟨fun h0 => by rw [h0] at hj0; simp at hj0, fun i hi => ?_⟩
        obtain ⟨hun, o, ho, hafter⟩ := mem_ready.1 hi
        have hio : i < ops.size := by
          rcases Nat.lt_or_ge i ops.size with h' | h'
          · exact h'
          · rw [Array.getElem?_eq_none h'] at ho; cases ho
        obtain ⟨d, hd1, hd2⟩ := hd i o ho
        have hdst := (decOper_parts hd2).1
        have hil : i < listed.size := by rw [inv.size]; exact hio
        by_cases his : i = s
        · subst his
          rw [hs0] at hd1; cases hd1
          have hpe : p = (p0 ++ q) ++ i :: flatS segs last := by rw [hp]; simp
          have hag := hk.agree inv hst' ho hun hafter hs0 hpe
          have hop' : aop P w0 st tl m fun _ m' => segA P w0 ds' (last.filterMap (l[·]?)) (tsP l vs' (p0 ++ q) ts) m' K := by
            rw [← aop_congr (ts := tsP l vs' (p0 ++ q) ts)]
            · exact g4
            · intro r hr'; exact hag r (by simpa [readsD] using hr')
          unfold wpOp
          simp only [ho]
          rw [wanted_sound hd2 hr (r := true) rfl, if_pos rfl]
          have e2 := (decOper_parts hd2).2.1
          simp only at e2
          rw [e2] at hop'
          obtain ⟨dd, hdd1, hdd2⟩ := bad_false hop'
          refine .inl (Oper.wp_mono ?_ (aop_sound (Q := Q) hR hr hdd1 hdd2))
          rintro a' w' ⟨cv, av, m', L', rfl, hx', hv, hR', hk3⟩
          have hput := hk.put inv hst' hio hs0
          simp only [putT] at hput
          have hends : tsP l vs' (p0 ++ q ++ [i]) ts = tsP l vs' (p0 ++ q) ts := by
            rw [tsP_append]
            simp only [tsP, hs0, putT]
          have hcn := cnt_down hun hio hc.symm
          rw [← hcn]
          refine ihs last (p0 ++ q ++ [i]) ds' vs' L' m' _ _ w' tl (by rw [hp]; simp) hok4 hds' (hx.trans hx') (by rw [hends]; exact hk3) ?_ ?_ (inv.set hi hio) hput (by rw [put_defers]; exact hdf) ?_ hR'
          · intro q1 j q2 dj hej hdj hunj mm
            have hji : j ≠ i := fun h => by subst h; simp [hil] at hunj
            have hunj' : listed.getD j true = false := by rw [getD_set_ne true (Ne.symm hji)] at hunj; exact hunj
            have hjm : j ∈ p0 ++ q := by
              have : j ∈ p0 ++ q ++ [i] := by rw [hej]; simp
              rcases List.mem_append.1 this with h | h
              · exact h
              · simp at h; exact absurd h hji
            obtain ⟨q3, hq3⟩ := cut_at (a := p0 ++ q) (b := []) (x := i) (by simp) hji hej
            have h3 := hok3 j hjm
            simp only [Bool.or_eq_true, List.contains_iff_mem] at h3
            have hpu : pureD dj.op = true := by
              rcases h3 with h | h
              · obtain ⟨e, he1, he2, he3⟩ := (mem_waitsOn ho).1 h
                have := hafter e he1 he2
                rw [he3, getD_both hunj'] at this; cases this
              · unfold pureAt at h
                rw [hdj] at h; exact h
            exact StepQ.pure hpu (hrest' q1 j q3 dj hq3 hdj hunj') mm
          · intro j hj hlj
            by_cases hji : j = i
            · subst hji; simp
            · rw [getD_set_ne true (Ne.symm hji)] at hlj
              exact List.mem_append_left _ (hsub' j hj hlj)
          · have := (hr.ext hx').put none hv
            simp only at hdst
            rw [← hdst]; exact this
        · have hnT : i ∉ flatS segs last := fun h => late_any hk.down (List.all_eq_true.2 hok2) (fun j hj => hk.lt j (by rw [hp]; simp [hj])) inv hsl i h o ho hafter
          have him : i ∈ p0 ++ q := by
            have := hk.all i hio
            rw [hp] at this
            rcases List.mem_append.1 this with h | h
            · simp [h]
            · rcases List.mem_append.1 h with h | h
              · simp [h]
              · rcases List.mem_cons.1 h with h | h
                · exact absurd h his
                · exact absurd h hnT
          obtain ⟨q1, q2, he⟩ := List.append_of_mem him
          have hs1 := hrest' q1 i q2 d he hd1 hun
          have hpe : p = q1 ++ i :: (q2 ++ s :: flatS segs last) := by
            rw [hp, ← List.append_assoc, he]; simp
          refine step_sound ho hd2 hr hR (hs1.congr (hk.agree inv hst' ho hun hafter hd1 hpe)) fun cv w' hv hR' => ?_
          refine ih _ _ _ _ (inv.set hi hio) (by rw [put_defers]; exact hdf) (by rw [← hdst]; exact hr.put _ hv) hR' (hk.put inv hst' hio hd1) (fun q1 j q2 dj hej hdj hunj => ?_) (by rw [getD_set_ne true his]; exact hsl) (fun j hj hlj => ?_) (cnt_down hun hio hc.symm).symm
          · refine hrest' q1 j q2 dj hej hdj ?_
            by_cases hji : i = j
            · subst hji; simp [hil] at hunj
            · rw [getD_set_ne true hji] at hunj; exact hunj
          · by_cases hji : i = j
            · subst hji; exact him
            · rw [getD_set_ne true hji] at hlj; exact hsub' j hj hlj
    · cases hds
theorem decSeg_sound {L0 : Locs} {ts : TS} {a : Act} {w : World} {id : Nat} {d : DCode} {K : DExit → TS → MS → Prop} (hm : P.follows .mixedOrders = true) (hd : allSome (decOper P ops) ops.toList = some l)
    (h : decSeg ops l = some d) (hx : Ext L0 L) (hdf : a.defers = []) (hr : RelT L ts a) (hR : Rep w0 ow L m w) (hw : awp P w0 L0.length d ts m K) (hQ : ∀ a w, Good w0 ow L0 (K .normal) a w → Q .normal a w) : (Code.region id ops true).wp P Q a w := by
  unfold decSeg at h
  simp only at h
  split at h
  · rename_i hck
    rw [Option.map_eq_some_iff] at h
    obtain ⟨ds, hds, rfl⟩ := h
    simp only [awp] at hw
    obtain ⟨hlen, hget⟩ := allSome_get hd
    obtain ⟨hk, hok⟩ := checkSeg_sound (by simpa using hlen) hck
    refine wp_region_any hm ?_
    have hcnt : Fw.cnt (Array.replicate ops.size false) ops.size = ops.size := cnt_all _ (Nat.le_refl _)
    have hrep : ∀ j, j < ops.size → (Array.replicate ops.size false).getD j true = false := fun j hj => getD_in (by simpa using hj) (getD_replicate_false _ _)
    have := seg_any (P := P) (w0 := w0) (ow := ow) (Q := Q) (L := L) hk (fun i o ho => hget i o (by simpa using ho)) (ts := ts) (df := [])
      (fun L' m' ts' a w hx' hK hdf hr hR => hQ a w ⟨hdf, L', ts', m', hx.trans hx', hr, hR, hK⟩)
      _ _ [] ds (fun _ => undefA) L m (Array.replicate ops.size false) a w.drew ts rfl hok hds (Ext.refl L) hw
      (fun q1 i q2 d he => by simp at he) (fun i hi hl => by rw [hrep i hi] at hl; cases hl)
      ⟨by simp, fun j oj _ hl => (by rw [getD_replicate_false] at hl; cases hl), fun t _ ht => getD_in (by simpa using ht) (getD_replicate_false _ _)⟩
      ⟨rfl, fun r j d hr hj hdd hs => (by
        have := getElem?_lt hj
        rw [List.length_take] at this
        rw [hrep j (by omega)] at hs; cases hs), fun _ _ _ => rfl⟩ hdf hr hR.drew
    rw [hcnt] at this
    exact this
  · cases h
theorem draw_sound {L0 : Locs} {ts : TS} {a : Act} {w : World} {id : Nat} {d : DCode} {K : DExit → TS → MS → Prop} (hm : P.follows .mixedOrders = true) (hd : allSome (decOper P ops) ops.toList = some l)
    (h : decDraw P ops l = some d) (hx : Ext L0 L) (hdf : a.defers = []) (hr : RelT L ts a) (hR : Rep w0 ow L m w) (hw : awp P w0 L0.length d ts m K) (hQ : ∀ a w, Good w0 ow L0 (K .normal) a w → Q .normal a w) : (Code.region id ops true).wp P Q a w := by
  unfold decDraw at h
  split at h
  · rename_i d' h1
    cases h
    rw [Option.bind_eq_some_iff] at h1
    obtain ⟨g, _, hg⟩ := h1
    exact decG_sound hm hd hg hx hdf hr hR hw hQ
  · split at h
    · rename_i hck
      cases h
      simp only [awp] at hw
      exact region_any hm hd hck hx hdf hr hR hw hQ
    · split at h
      · rename_i d' h1
        cases h
        rw [Option.bind_eq_some_iff] at h1
        obtain ⟨g, _, hg⟩ := h1
        exact decG_sound hm hd hg hx hdf hr hR hw hQ
      · split at h
        · rename_i d' h1
          cases h
          rw [Option.bind_eq_some_iff] at h1
          obtain ⟨g, _, hg⟩ := h1
          exact decS_sound hm hd hg hx hdf hr hR hw hQ
        · exact decSeg_sound hm hd h hx hdf hr hR hw hQ
end
end
end Go.Fw
