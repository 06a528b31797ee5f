import Derived.Test.YtfkbgfpidolhhaaFwReg2
namespace Go.Fw
open Go
section
variable {P : Program} {w0 : World} {ow : List Nat} {Q : Exit → Act → World → Prop}
variable {L : Locs} {m : MS}

/-! the state in the text's order -/
def tsAt (h : List DOper) (ts : TS) (vs : Nat → AV) : Nat → TS
  | 0 => ts
  | k + 1 => match h[k]? with
    | some d => putT (tsAt h ts vs k) d.dst (vs k)
    | none => tsAt h ts vs k
theorem tsAt_cons (d : DOper) (h : List DOper) (ts : TS) (vs : Nat → AV) : ∀ k, tsAt (d :: h) ts vs (k + 1) = tsAt h (putT ts d.dst (vs 0)) (fun k => vs (k + 1)) k
  | 0 => rfl
  | k + 1 => by
    rw [tsAt, tsAt_cons d h ts vs k]
    simp only [List.getElem?_cons_succ, tsAt]
theorem qops_run {K : TS → Prop} : ∀ (h : List DOper) (ts : TS), (∀ d ∈ h, quiet d.op = true) → qops P w0 h ts m K →
    ∃ vs : Nat → AV, (∀ k d, h[k]? = some d → StepQ P w0 m d (tsAt h ts vs k) (vs k)) ∧ K (tsAt h ts vs h.length)
  | [], ts, _, hh => ⟨fun _ => undefA, fun k d hk => by simp at hk, hh⟩
  | d :: h, ts, hq, hh => by
    obtain ⟨v, h1, h2⟩ := qops_cons (hq d (by simp)) hh
    obtain ⟨vs, h3, h4⟩ := qops_run h _ (fun d hd => hq d (by simp [hd])) h2
    refine ⟨fun | 0 => v | k + 1 => vs k, ?_, ?_⟩
    · intro k e hk
      cases k with
      | zero => simp at hk; subst hk; exact h1
      | succ k => rw [tsAt_cons]; exact h3 k e (by simpa using hk)
    · rw [List.length_cons, tsAt_cons]; exact h4

/-- what a state reads: what has been listed, and what was before -/
structure St (h : List DOper) (ts : TS) (vs : Nat → AV) (S : Nat → Prop) (tl : TS) : Prop where
  len : tl.length = ts.length
  done : ∀ r j d, r < ts.length → h[j]? = some d → d.dst = some r → S j → getL tl r = vs j
  old : ∀ r, r < ts.length → (∀ j d, h[j]? = some d → d.dst = some r → ¬ S j) → getL tl r = getL ts r
theorem putT_length (ts : TS) (d : Option Nat) (v : AV) : (putT ts d v).length = ts.length := by cases d <;> simp [putT]
theorem St.step {h : List DOper} {ts tl : TS} {vs : Nat → AV} {S S' : Nat → Prop} {i : Nat} {d : DOper} (hst : St h ts vs S tl) (hi : h[i]? = some d) (hS : ∀ j, S' j ↔ S j ∨ j = i)
    (huniq : ∀ j e, h[j]? = some e → j ≠ i → e.dst = d.dst → d.dst = none) : St h ts vs S' (putT tl d.dst (vs i)) := by
  refine ⟨by rw [putT_length]; exact hst.len, ?_, ?_⟩
  · intro r j e hr hj he hs
    cases hd : d.dst with
    | none =>
      simp only [putT]
      rcases (hS j).1 hs with h1 | h1
      · exact hst.done r j e hr hj he h1
      · subst h1
        rw [hi] at hj; cases hj
        rw [hd] at he; cases he
    | some q =>
      simp only [putT]
      by_cases hrq : q = r
      · subst hrq
        rw [getL_set _ _ _ _ (by rw [hst.len]; exact hr), if_pos rfl]
        by_cases hji : j = i
        · rw [hji]
        · have := huniq j e hj hji (by rw [he, hd])
          rw [hd] at this; cases this
      · have hq : getL (tl.set q (vs i)) r = getL tl r := by
          by_cases hql : q < tl.length
          · rw [getL_set _ _ _ _ hql, if_neg hrq]
          · rw [List.set_eq_of_length_le (by omega)]
        rw [hq]
        rcases (hS j).1 hs with h1 | h1
        · exact hst.done r j e hr hj he h1
        · subst h1
          rw [hi] at hj; cases hj
          rw [hd] at he; cases he; exact absurd rfl hrq
  · intro r hr hno
    have hno' : ∀ j e, h[j]? = some e → e.dst = some r → ¬ S j := fun j e hj he hs => hno j e hj he ((hS j).2 (.inl hs))
    have hdr : d.dst ≠ some r := fun hd => hno i d hi hd ((hS i).2 (.inr rfl))
    rw [← hst.old r hr hno']
    cases hd : d.dst with
    | none => rfl
    | some q =>
      simp only [putT]
      have hrq : q ≠ r := fun hh => hdr (by rw [hd, hh])
      by_cases hql : q < tl.length
      · rw [getL_set _ _ _ _ hql, if_neg hrq]
      · rw [List.set_eq_of_length_le (by omega)]
theorem St.agree {h : List DOper} {ts tl tl' : TS} {vs : Nat → AV} {S S' : Nat → Prop} (h1 : St h ts vs S tl) (h2 : St h ts vs S' tl') {r : Nat}
    (hc : ∀ j d, h[j]? = some d → d.dst = some r → (S j ↔ S' j)) : getL tl r = getL tl' r := by
  by_cases hr : r < ts.length
  · by_cases hx : ∃ j d, h[j]? = some d ∧ d.dst = some r ∧ S j
    · obtain ⟨j, d, hj, hd, hs⟩ := hx
      rw [h1.done r j d hr hj hd hs, h2.done r j d hr hj hd ((hc j d hj hd).1 hs)]
    · have hx' : ∀ j d, h[j]? = some d → d.dst = some r → ¬ S j := fun j d hj hd hs => hx ⟨j, d, hj, hd, hs⟩
      rw [h1.old r hr hx', h2.old r hr (fun j d hj hd hs => hx' j d hj hd ((hc j d hj hd).2 hs))]
  · rw [getL_ge _ _ (by rw [h1.len]; omega), getL_ge _ _ (by rw [h2.len]; omega)]
theorem getL_getElem : ∀ (ts : TS) (r : Nat) (h : r < ts.length), getL ts r = ts[r]
  | x :: xs, 0, _ => rfl
  | x :: xs, r + 1, h => getL_getElem xs r (by simpa using h)
theorem ext_getL {ts ts' : TS} (hl : ts.length = ts'.length) (h : ∀ r, getL ts r = getL ts' r) : ts = ts' := by
  apply List.ext_getElem hl
  intro r h1 h2
  rw [← getL_getElem, ← getL_getElem]; exact h r
def UniqD (h : List DOper) : Prop := ∀ (i j : Nat) (d e : DOper), h[i]? = some d → h[j]? = some e → j ≠ i → e.dst = d.dst → d.dst = none
theorem St.text {h : List DOper} {ts : TS} {vs : Nat → AV} (hu : UniqD h) : ∀ k, St h ts vs (fun j => j < k) (tsAt h ts vs k)
  | 0 => ⟨rfl, fun _ _ _ _ _ _ hs => absurd hs (by omega), fun _ _ _ => rfl⟩
  | k + 1 => by
    have ih := St.text (ts := ts) (vs := vs) hu k
    simp only [tsAt]
    split
    · rename_i d hd
      exact ih.step hd (fun j => by omega) (fun j e hj hne he => hu k j d e hd hj hne he)
    · rename_i hn
      refine ⟨ih.len, fun r j d hr hj hd hs => ih.done r j d hr hj hd ?_, fun r hr hno => ih.old r hr (fun j d hj hd hs => hno j d hj hd (by omega))⟩
      have : j ≠ k := fun hh => by subst hh; rw [hn] at hj; cases hj
      omega

/-! what has not been listed yet -/
def cnt (listed : Array Bool) : Nat → Nat
  | 0 => 0
  | k + 1 => cnt listed k + if listed.getD k true then 0 else 1
theorem cnt_set_ge {listed : Array Bool} {i : Nat} : ∀ n, n ≤ i → cnt (listed.setIfInBounds i true) n = cnt listed n
  | 0, _ => rfl
  | n + 1, h => by
    simp only [cnt]
    rw [cnt_set_ge n (by omega), getD_set_ne true (by omega)]
theorem cnt_set {listed : Array Bool} {i : Nat} (hi : listed.getD i true = false) : ∀ n, i < n → cnt (listed.setIfInBounds i true) n + 1 = cnt listed n
  | 0, h => by omega
  | n + 1, h => by
    simp only [cnt]
    by_cases hin : i = n
    · subst hin
      rw [cnt_set_ge i (Nat.le_refl _), hi]
      have : (listed.setIfInBounds i true).getD i true = true := by
        have hlt : i < listed.size := by
          rcases Nat.lt_or_ge i listed.size with h' | h'
          · exact h'
          · simp [Array.getElem?_eq_none h'] at hi
        simp [hlt]
      rw [this]; simp
    · rw [getD_set_ne true hin]
      have := cnt_set hi n (by omega)
      omega
theorem cnt_zero {listed : Array Bool} : ∀ n, cnt listed n = 0 → ∀ i, i < n → listed.getD i true = true
  | 0, _, i, hi => by omega
  | n + 1, h, i, hi => by
    simp only [cnt] at h
    by_cases hin : i = n
    · subst hin
      cases hx : listed.getD i true with
      | true => rfl
      | false => rw [hx] at h; simp at h
    · exact cnt_zero n (by omega) i (by omega)
theorem cnt_pos {listed : Array Bool} : ∀ n, 0 < cnt listed n → ∃ i, i < n ∧ listed.getD i true = false
  | 0, h => by simp [cnt] at h
  | n + 1, h => by
    simp only [cnt] at h
    cases hx : listed.getD n true with
    | true =>
      rw [hx] at h
      obtain ⟨i, h1, h2⟩ := cnt_pos n (by simpa using h)
      exact ⟨i, by omega, h2⟩
    | false => exact ⟨n, by omega, hx⟩
theorem cnt_all {s : Nat} : ∀ n, n ≤ s → cnt (Array.replicate s false) n = n
  | 0, _ => rfl
  | n + 1, h => by
    simp only [cnt]
    rw [cnt_all n (by omega)]
    have : (Array.replicate s false).getD n true = false := by simp [show n < s by omega]
    rw [this]; simp

theorem mem_waitsOn {ops : Array Oper} {i j : Nat} {o : Oper} (ho : ops[i]? = some o) : j ∈ waitsOn ops i ↔ ∃ e ∈ o.after, Region.binds .any e = true ∧ e.on = j := by
  unfold waitsOn
  rw [ho]
  simp only [List.mem_map, List.mem_filter, Array.mem_toList_iff]
  constructor
  · rintro ⟨e, ⟨h1, h2⟩, h3⟩; exact ⟨e, h1, h2, h3⟩
  · rintro ⟨e, h1, h2, h3⟩; exact ⟨e, ⟨h1, h2⟩, h3⟩
structure HeadOk (ops : Array Oper) (l : List DOper) (n : Nat) : Prop where
  le : n ≤ ops.size
  quiet : ∀ i d, i < n → l[i]? = some d → quiet d.op = true
  down : ∀ i, i < n → ∀ j ∈ waitsOn ops i, j < i
  reads : ∀ i d, i < n → l[i]? = some d → ∀ r ∈ readsD d, ∀ j dj, j < n → l[j]? = some dj → dj.dst = some r → (j < i → j ∈ waitsOn ops i) ∧ (i < j → i ∈ waitsOn ops j)
  uniq : ∀ i j d e, i < n → j < n → l[i]? = some d → l[j]? = some e → j ≠ i → e.dst = d.dst → d.dst = none
  tail : n = ops.size ∨ (Region.sinkB .any ops n = true ∧ Region.chainB .any ops n = true)
  seq : Region.seqB .any ops (ops.size - n) n (listedN n ops.size) = true
theorem checkDraw_sound {ops : Array Oper} {l : List DOper} {n : Nat} (h : checkDraw ops l n = true) : HeadOk ops l n := by
  simp only [checkDraw, Bool.and_eq_true, decide_eq_true_eq, Bool.or_eq_true, beq_iff_eq, List.all_eq_true, List.mem_range] at h
  obtain ⟨⟨⟨h1, h2⟩, h3⟩, h4⟩ := h
  have key : ∀ i d, i < n → l[i]? = some d → Fw.quiet d.op = true ∧ (∀ j ∈ waitsOn ops i, j < i) ∧ (∀ r ∈ readsD d, readOk ops l n i r = true) ∧ (∀ j, j < n → j = i ∨ (match l[j]? with | some dj => d.dst.isNone || dj.dst != d.dst | none => true) = true) := by
    intro i d hi hd
    have := h2 i hi
    unfold headOk at this
    rw [hd] at this
    simp only [Bool.and_eq_true, List.all_eq_true, decide_eq_true_eq, List.mem_range, Bool.or_eq_true, beq_iff_eq] at this
    obtain ⟨⟨⟨g1, g2⟩, g3⟩, g4⟩ := this
    exact ⟨g1, g2, g3, g4⟩
  refine ⟨h1, fun i d hi hd => (key i d hi hd).1, ?_, ?_, ?_, h3, h4⟩
  · intro i hi
    have := h2 i hi
    unfold headOk at this
    split at this
    · rename_i d hd; exact (key i d hi hd).2.1
    · cases this
  · intro i d hi hd r hr j dj hj hdj hdst
    have := (key i d hi hd).2.2.1 r hr
    simp only [readOk, List.all_eq_true, List.mem_range] at this
    have := this j hj
    rw [hdj] at this
    simp only [hdst, if_true] at this
    refine ⟨fun hlt => ?_, fun hlt => ?_⟩
    · rw [if_pos hlt] at this; simpa using this
    · rw [if_neg (by omega)] at this
      simp only [Bool.or_eq_true, beq_iff_eq] at this
      rcases this with h | h
      · omega
      · simpa using h
  · intro i j d e hi hj hd he hne hde
    rcases (key i d hi hd).2.2.2 j hj with h | h
    · exact absurd h hne
    · rw [he] at h
      simp only [Bool.or_eq_true, bne_iff_ne, Option.isNone_iff_eq_none] at h
      rcases h with h | h
      · exact h
      · exact absurd hde h
theorem ready_of {ops : Array Oper} {l : List DOper} {n : Nat} (hk : HeadOk ops l n) {listed : Array Bool} : ∀ (i : Nat), i < n → listed.getD i true = false → ∃ j, j ∈ Region.ready .any ops listed := by
  intro i
  induction i using Nat.strongRecOn with
  | _ i ih =>
    intro hi hl
    have hio : ∃ o, ops[i]? = some o := ⟨ops[i]'(by have := hk.le; omega), Array.getElem?_eq_getElem _⟩
    obtain ⟨o, ho⟩ := hio
    by_cases hall : ∀ e ∈ o.after, Region.binds .any e = true → listed.getD e.on false = true
    · exact ⟨i, mem_ready.2 ⟨hl, o, ho, hall⟩⟩
    · have : ∃ e, e ∈ o.after ∧ Region.binds .any e = true ∧ listed.getD e.on false = false := by
        apply Classical.byContradiction
        intro hno
        apply hall
        intro e he hb
        cases hx : listed.getD e.on false with
        | true => rfl
        | false => exact absurd ⟨e, he, hb, hx⟩ hno
      obtain ⟨e, he, hb, hx⟩ := this
      have hlt := hk.down i hi e.on ((mem_waitsOn ho).2 ⟨e, he, hb, rfl⟩)
      have hx' : listed.getD e.on true = false ∨ listed.getD e.on true = true := by cases listed.getD e.on true <;> simp
      rcases hx' with h' | h'
      · exact ih e.on hlt (by omega) h'
      · -- beyond the list: but i lies in it
        have hsz : i < listed.size := by
          rcases Nat.lt_or_ge i listed.size with g | g
          · exact g
          · simp [Array.getElem?_eq_none g] at hl
        have : e.on < listed.size := by omega
        simp [this] at hx h'
        rw [hx] at h'; cases h'
end
end Go.Fw
