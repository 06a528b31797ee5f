import Derived.Test.YtfkbgfpidolhhaaFwReg4
namespace Go.Fw
open Go
section
variable {P : Program} {w0 : World} {ow : List Nat} {Q : Exit → Act → World → Prop}
variable {L : Locs} {m : MS}

/-! an operation that does not see whether there is more behind the blocks -/
theorem getE_app {m x : MS} {i : Nat} {e : Ent} (h : m[i]? = some e) : (m ++ x)[i]? = some e := by
  rw [List.getElem?_append_left (getElem?_lt h)]; exact h
theorem qopS_fix {op : DOp} {ts : TS} {K : AV → Prop} (hq : quiet op = true) (h : qopS P w0 op ts m K) : ∃ v, (∀ (x : MS) (K' : AV → MS → Prop), K' v (m ++ x) → aop P w0 op ts (m ++ x) K') ∧ K v := by
  have plain : (∀ K : AV → Prop, aop P w0 op ts m (fun v _ => K v) → qop P w0 op ts m K) → (∀ (x : MS) (K : AV → Prop), qop P w0 op ts m K → qop P w0 op ts (m ++ x) K) → qop P w0 op ts m K → ∃ v, (∀ (x : MS) (K' : AV → MS → Prop), K' v (m ++ x) → aop P w0 op ts (m ++ x) K') ∧ K v := by
    intro ha hx h
    obtain ⟨v, h1, h2⟩ := qop_fix hq h
    refine ⟨v, fun x K' hK' => ?_, h2⟩
    have hv : qop P w0 op ts m (fun v' => v' = v) := ha _ (h1 _ rfl)
    obtain ⟨v', h3, rfl⟩ := qop_fix hq (hx x _ hv)
    exact h3 K' hK'
  cases op with
  | call f args =>
    simp only [qopS, evLK_eq] at h
    obtain ⟨v, h1, h2⟩ := h.out
    exact ⟨v, fun x K' hk' => by simp only [aop, evLK_eq]; exact callLeaf_mono (fun v' m' hh => by obtain ⟨rfl, rfl⟩ := hh; exact hk') (h1 x), h2⟩
  | callv x args =>
    simp only [qopS, evLK_eq, evK_eq] at h
    split at h
    · rename_i f caps e
      simp only [catK_eq] at h
      obtain ⟨h0, h⟩ := h
      obtain ⟨v, h1, h2⟩ := h.out
      exact ⟨v, fun x K' hk' => by simp only [aop, evLK_eq, evK_eq, e, catK_eq]; exact ⟨h0, callLeaf_mono (fun v' m' hh => by obtain ⟨rfl, rfl⟩ := hh; exact hk') (h1 x)⟩, h2⟩
    · rename_i u e
      obtain ⟨v, h1, h2⟩ := h.out
      exact ⟨v, fun x K' hk' => by simp only [aop, evLK_eq, evK_eq, e]; exact callVLeaf_mono (fun v' m' hh => by obtain ⟨rfl, rfl⟩ := hh; exact hk') (h1 x), h2⟩
    · exact h.elim
  | load ag n p =>
    refine plain (fun K h => h) ?_ h
    intro x K h
    simp only [qop, aop, evK_eq, getE_eq] at h ⊢
    split at h
    · split at h
      · rename_i he
        rw [getE_app he]
        exact h
      · exact h.elim
    · exact h.elim
  | _ => first | (exact plain (fun K h => h) (fun x K h => h) h) | (simp [quiet] at hq; done)

/-! a list of such, in an order that is given -/
def tsP (l : List DOper) (vs : Nat → AV) : List Nat → TS → TS
  | [], ts => ts
  | i :: p, ts => match l[i]? with
    | some d => tsP l vs p (putT ts d.dst (vs i))
    | none => tsP l vs p ts
theorem tsP_append {l : List DOper} {vs : Nat → AV} : ∀ (p q : List Nat) (ts : TS), tsP l vs (p ++ q) ts = tsP l vs q (tsP l vs p ts)
  | [], _, _ => rfl
  | i :: p, q, ts => by
    simp only [List.cons_append, tsP]
    split
    · exact tsP_append p q _
    · exact tsP_append p q _
theorem tsP_congr {l : List DOper} {vs vs' : Nat → AV} : ∀ (p : List Nat) (ts : TS), (∀ i ∈ p, vs i = vs' i) → tsP l vs p ts = tsP l vs' p ts
  | [], _, _ => rfl
  | i :: p, ts, h => by
    simp only [tsP]
    rw [h i (by simp)]
    split
    · exact tsP_congr p _ fun j hj => h j (by simp [hj])
    · exact tsP_congr p _ fun j hj => h j (by simp [hj])
theorem run_gen {l : List DOper} {S : DOper → TS → AV → Prop} {A : List DOper → TS → (TS → Prop) → Prop} (h0 : ∀ ts K, A [] ts K → K ts)
    (h1 : ∀ d rest ts K, quiet d.op = true → A (d :: rest) ts K → ∃ v, S d ts v ∧ A rest (putT ts d.dst v) K) {K : TS → Prop} : ∀ (q : List Nat) (ts : TS), (∀ i ∈ q, ∃ d, l[i]? = some d ∧ quiet d.op = true) → q.Nodup → A (q.filterMap (l[·]?)) ts K →
    ∃ vs : Nat → AV, (∀ q1 i q2 d, q = q1 ++ i :: q2 → l[i]? = some d → S d (tsP l vs q1 ts) (vs i)) ∧ K (tsP l vs q ts)
  | [], ts, _, _, h => ⟨fun _ => undefA, fun q1 i q2 d he => by simp at he, h0 _ _ h⟩
  | i0 :: q, ts, hq, hn, h => by
    obtain ⟨d0, hd0, hq0⟩ := hq i0 (by simp)
    rw [List.filterMap_cons, hd0] at h
    obtain ⟨v, g1, g2⟩ := h1 _ _ _ _ hq0 h
    rw [List.nodup_cons] at hn
    obtain ⟨vs, g3, g4⟩ := run_gen h0 h1 q _ (fun i hi => hq i (by simp [hi])) hn.2 g2
    have hv : ∀ j, j ∈ q → (if j = i0 then v else vs j) = vs j := fun j hj => if_neg (fun e => hn.1 (by rw [← e]; exact hj))
    refine ⟨fun j => if j = i0 then v else vs j, ?_, ?_⟩
    · intro q1 i q2 d he hd
      cases q1 with
      | nil =>
        simp only [List.nil_append, List.cons.injEq] at he
        obtain ⟨rfl, rfl⟩ := he
        rw [hd] at hd0; cases hd0
        simp only [tsP, if_true]; exact g1
      | cons j q1 =>
        simp only [List.cons_append, List.cons.injEq] at he
        obtain ⟨rfl, rfl⟩ := he
        simp only [tsP, hd0, if_true]
        rw [tsP_congr q1 _ fun j hj => hv j (by simp [hj]), hv i (by simp)]
        exact g3 q1 i q2 d rfl hd
    · simp only [tsP, hd0, if_true]
      rw [tsP_congr q _ fun j hj => hv j hj]
      exact g4
def StepS (P : Program) (w0 : World) (m : MS) (d : DOper) (ts : TS) (v : AV) : Prop := ∀ x : MS, StepQ P w0 (m ++ x) d ts v
theorem qopsS_cons {d : DOper} {rest : List DOper} {ts : TS} {K : TS → Prop} (hq : quiet d.op = true) (h : qopsS P w0 (d :: rest) ts m K) :
    ∃ v, StepS P w0 m d ts v ∧ qopsS P w0 rest (putT ts d.dst v) m K := by
  obtain ⟨dst, g, op⟩ := d
  cases g with
  | none =>
    simp only [qopsS, putK_eq] at h
    obtain ⟨v, h1, h2⟩ := qopS_fix hq h
    exact ⟨v, fun x => .inl ⟨rfl, h1 x⟩, h2⟩
  | some gw =>
    obtain ⟨g, want⟩ := gw
    simp only [qopsS, getK_eq, putK_eq, setK_eq] at h
    split at h
    · rename_i b e
      cases b <;> cases want <;> first | replace h := br_f h | replace h := br_t h
      · rw [← e, set_getL] at h
        obtain ⟨v, h1, h2⟩ := qopS_fix hq h
        exact ⟨v, fun x => .inl ⟨by simp [gRun, e], h1 x⟩, h2⟩
      · rw [← e, set_getL] at h; exact ⟨_, fun x => .inr ⟨by simp [gRun, e], rfl⟩, h⟩
      · rw [← e, set_getL] at h; exact ⟨_, fun x => .inr ⟨by simp [gRun, e], rfl⟩, h⟩
      · rw [← e, set_getL] at h
        obtain ⟨v, h1, h2⟩ := qopS_fix hq h
        exact ⟨v, fun x => .inl ⟨by simp [gRun, e], h1 x⟩, h2⟩
    · rename_i e; exact ⟨_, fun x => .inr ⟨by simp [gRun, e], rfl⟩, h⟩
    · exact h.elim

/-! what the check says -/
theorem nodupB_ok : ∀ {l : List Nat}, nodupB l = true → l.Nodup
  | [], _ => List.nodup_nil
  | i :: l, h => by
    simp only [nodupB, Bool.and_eq_true, Bool.not_eq_true', List.contains_eq_mem, decide_eq_false_iff_not] at h
    exact List.nodup_cons.2 ⟨h.1, nodupB_ok h.2⟩
theorem readsP_ok {ops : Array Oper} {l : List DOper} : ∀ (done rest : List Nat), readsP ops l done rest = true → ∀ q1 i q2 d, rest = q1 ++ i :: q2 → l[i]? = some d → ∀ r ∈ readsD d,
      (∀ j ∈ done ++ q1, wrD l r j = true → j ∈ waitsOn ops i) ∧ (∀ j ∈ q2, wrD l r j = true → i ∈ waitsOn ops j)
  | _, [], _, q1, i, q2, d, he, _, _, _ => by simp at he
  | done, i0 :: rest, h, q1, i, q2, d, he, hd, r, hr => by
    simp only [readsP, Bool.and_eq_true] at h
    cases q1 with
    | nil =>
      simp only [List.nil_append, List.cons.injEq] at he
      obtain ⟨rfl, rfl⟩ := he
      rw [hd] at h
      simp only [List.all_eq_true, Bool.and_eq_true, Bool.or_eq_true, Bool.not_eq_true', List.contains_iff_mem] at h
      obtain ⟨g1, g2⟩ := h.1 r hr
      refine ⟨fun j hj hw => ?_, fun j hj hw => ?_⟩
      · rcases g1 j (by simpa using hj) with h' | h'
        · rw [hw] at h'; cases h'
        · exact h'
      · rcases g2 j hj with h' | h'
        · rw [hw] at h'; cases h'
        · exact h'
    | cons j q1 =>
      simp only [List.cons_append, List.cons.injEq] at he
      obtain ⟨rfl, rfl⟩ := he
      have := readsP_ok (done ++ [i0]) _ h.2 q1 i q2 d rfl hd r hr
      exact ⟨fun j hj hw => this.1 j (by simpa using hj) hw, this.2⟩
structure GOk (ops : Array Oper) (l : List DOper) (n g s : Nat) (h1 h2 : List Nat) : Prop where
  le : n ≤ ops.size
  has : ∀ i, i < n → ∃ d, l[i]? = some d ∧ (i ≠ g → i ≠ s → quiet d.op = true)
  down : ∀ i, i < n → ∀ j ∈ waitsOn ops i, j < i
  uniq : ∀ i j d e, i < n → j < n → l[i]? = some d → l[j]? = some e → j ≠ i → e.dst = d.dst → d.dst = none
  all : ∀ i, i < n → i ∈ h1 ++ g :: h2
  lt : ∀ i, i ∈ h1 ++ g :: h2 → i < n
  nd : (h1 ++ g :: h2).Nodup
  dep : ∀ i, i ∈ h2 → ∃ j ∈ waitsOn ops i, j = g ∨ j ∈ h2
  reads : ∀ q1 i q2 d, h1 ++ g :: h2 = q1 ++ i :: q2 → l[i]? = some d → ∀ r ∈ readsD d, (∀ j ∈ q1, wrD l r j = true → j ∈ waitsOn ops i) ∧ (∀ j ∈ q2, wrD l r j = true → i ∈ waitsOn ops j)
  tail : n = ops.size ∨ (Region.sinkB .any ops n = true ∧ Region.chainB .any ops n = true)
  seq : Region.seqB .any ops (ops.size - n) n (listedN n ops.size) = true
theorem checkG_sound {ops : Array Oper} {l : List DOper} {n g s : Nat} {h1 h2 : List Nat} (h : checkG ops l n g s h1 h2 = true) : GOk ops l n g s h1 h2 := by
  unfold checkG at h
  simp only [Bool.and_eq_true] at h
  obtain ⟨⟨⟨⟨⟨⟨⟨⟨a1, a2⟩, a3⟩, a4⟩, a5⟩, a6⟩, a7⟩, a8⟩, a9⟩ := h
  have key : ∀ i, i < n → ∃ d, l[i]? = some d ∧ ((i = g ∨ i = s) ∨ quiet d.op = true) ∧ (∀ j ∈ waitsOn ops i, j < i) ∧ (∀ j, j < n → j = i ∨ (match l[j]? with | some dj => d.dst.isNone || dj.dst != d.dst | none => true) = true) := by
    intro i hi
    have := List.all_eq_true.1 a2 i (List.mem_range.2 hi)
    unfold hdG at this
    split at this
    · rename_i d hd
      simp only [Bool.and_eq_true, List.all_eq_true, decide_eq_true_eq, List.mem_range, Bool.or_eq_true, beq_iff_eq] at this
      exact ⟨d, hd, this.1.1, this.1.2, this.2⟩
    · cases this
  refine ⟨by simpa using a1, ?_, ?_, ?_, ?_, ?_, nodupB_ok a5, ?_, ?_, ?_, a9⟩
  · intro i hi
    obtain ⟨d, hd, h1, _⟩ := key i hi
    exact ⟨d, hd, fun hg hs => h1.resolve_left (fun h => h.elim hg hs)⟩
  · intro i hi
    obtain ⟨d, hd, _, h2, _⟩ := key i hi
    exact h2
  · intro i j d e hi hj hd he hne hde
    obtain ⟨d', hd', _, _, h3⟩ := key i hi
    rw [hd] at hd'; cases hd'
    rcases h3 j hj with h | h
    · exact absurd h hne
    · rw [he] at h
      simp only [Bool.or_eq_true, bne_iff_ne, Option.isNone_iff_eq_none] at h
      rcases h with h | h
      · exact h
      · exact absurd hde h
  · intro i hi
    exact List.contains_iff_mem.1 (List.all_eq_true.1 a3 i (List.mem_range.2 hi))
  · intro i hi
    simpa using List.all_eq_true.1 a4 i hi
  · intro i hi
    have := List.all_eq_true.1 a6 i hi
    obtain ⟨j, h1, h2⟩ := List.any_eq_true.1 this
    simp only [Bool.or_eq_true, beq_iff_eq, List.contains_iff_mem] at h2
    exact ⟨j, h1, h2⟩
  · intro q1 i q2 d he hd r hr
    have := readsP_ok [] _ a7 q1 i q2 d he hd r hr
    exact ⟨fun j hj => this.1 j (by simpa using hj), this.2⟩
  · simpa using a8

section
variable {ops : Array Oper} {l : List DOper} {n g s : Nat} {h1 h2 : List Nat}
theorem GOk.ready (hk : GOk ops l n g s h1 h2) {listed : Array Bool} : ∀ (i : Nat), i < n → listed.getD i true = false → ∃ j, j ∈ Region.ready .any ops listed := by
  intro i
  induction i using Nat.strongRecOn with
  | _ i ih =>
    intro hi hl
    have hio : ∃ o, ops[i]? = some o := ⟨ops[i]'(by have := hk.le; omega), Array.getElem?_eq_getElem _⟩
    obtain ⟨o, ho⟩ := hio
    by_cases hall : ∀ e ∈ o.after, Region.binds .any e = true → listed.getD e.on false = true
    · exact ⟨i, mem_ready.2 ⟨hl, o, ho, hall⟩⟩
    · have : ∃ e, e ∈ o.after ∧ Region.binds .any e = true ∧ listed.getD e.on false = false := by
        apply Classical.byContradiction
        intro hno
        apply hall
        intro e he hb
        cases hx : listed.getD e.on false with
        | true => rfl
        | false => exact absurd ⟨e, he, hb, hx⟩ hno
      obtain ⟨e, he, hb, hx⟩ := this
      have hlt := hk.down i hi e.on ((mem_waitsOn ho).2 ⟨e, he, hb, rfl⟩)
      have hx' : listed.getD e.on true = false ∨ listed.getD e.on true = true := by cases listed.getD e.on true <;> simp
      rcases hx' with h' | h'
      · exact ih e.on hlt (by omega) h'
      · have hsz : i < listed.size := by
          rcases Nat.lt_or_ge i listed.size with g | g
          · exact g
          · simp [Array.getElem?_eq_none g] at hl
        have : e.on < listed.size := by omega
        simp [this] at hx h'
        rw [hx] at h'; cases h'
theorem GOk.uniqD (hk : GOk ops l n g s h1 h2) (hn : n ≤ l.length) : UniqD (l.take n) := by
  intro i j d e hi hj hne he
  have a1 := getElem?_lt hi
  have a2 := getElem?_lt hj
  rw [List.length_take] at a1 a2
  rw [List.getElem?_take, if_pos (by omega)] at hi hj
  exact hk.uniq i j d e (by omega) (by omega) hi hj hne he
theorem St.textP {ts : TS} {vs : Nat → AV} (hu : UniqD (l.take n)) : ∀ (p : List Nat) (S : Nat → Prop) (tl : TS), (∀ i ∈ p, i < n) → St (l.take n) ts vs S tl → St (l.take n) ts vs (fun j => S j ∨ j ∈ p) (tsP l vs p tl)
  | [], S, tl, _, h => by
    have : (fun j => S j ∨ j ∈ ([] : List Nat)) = S := by funext j; simp
    rw [this]; exact h
  | i :: p, S, tl, hp, h => by
    have hi := hp i (by simp)
    simp only [tsP]
    split
    · rename_i d hd
      have hd' : (l.take n)[i]? = some d := by rw [List.getElem?_take, if_pos hi]; exact hd
      have h' := h.step (S' := fun j => S j ∨ j = i) hd' (fun j => Iff.rfl) (fun j e hj hne he => hu i j d e hd' hj hne he)
      have := St.textP hu p _ _ (fun j hj => hp j (by simp [hj])) h'
      have e : (fun j => (S j ∨ j = i) ∨ j ∈ p) = (fun j => S j ∨ j ∈ i :: p) := by
        funext j; simp only [List.mem_cons, or_assoc]
      rw [e] at this
      exact this
    · rename_i hd
      have := St.textP hu p S tl (fun j hj => hp j (by simp [hj])) h
      refine ⟨this.len, fun r j d hr hj hdd hs => this.done r j d hr hj hdd ?_, fun r hr hno => this.old r hr fun j d hj hdd hs => hno j d hj hdd (by
        rcases hs with h | h
        · exact .inl h
        · exact .inr (by simp [h]))⟩
      rcases hs with h | h
      · exact .inl h
      · rcases List.mem_cons.1 h with rfl | h
        · rw [List.getElem?_take, if_pos hi, hd] at hj; cases hj
        · exact .inr h
theorem St.zero (h : List DOper) (ts : TS) (vs : Nat → AV) : St h ts vs (fun _ => False) ts := ⟨rfl, fun _ _ _ _ _ _ hs => hs.elim, fun _ _ _ => rfl⟩
theorem St.textP0 {ts : TS} {vs : Nat → AV} (hu : UniqD (l.take n)) (p : List Nat) (hp : ∀ i ∈ p, i < n) : St (l.take n) ts vs (fun j => j ∈ p) (tsP l vs p ts) := by
  have := St.textP hu p _ _ hp (St.zero (l.take n) ts vs)
  have e : (fun j => False ∨ j ∈ p) = (fun j => j ∈ p) := by funext j; simp
  rw [e] at this; exact this
theorem St.weaken {h : List DOper} {ts tl : TS} {vs vs' : Nat → AV} {S : Nat → Prop} (hs : St h ts vs S tl) (hv : ∀ j d, h[j]? = some d → S j → vs' j = vs j) : St h ts vs' S tl :=
  ⟨hs.len, fun r j d hr hj hd hsj => by rw [hs.done r j d hr hj hd hsj, hv j d hj hsj], hs.old⟩
/-- what an operation reads is what it reads in the order that is given -/
theorem GOk.agree (hk : GOk ops l n g s h1 h2) (hn : n ≤ l.length) {listed : Array Bool} (inv : HeadInv .any ops n listed) {ts tl : TS} {vs : Nat → AV} (hst : St (l.take n) ts vs (fun j => listed.getD j true = true) tl)
    {i : Nat} {o : Oper} {d : DOper} (ho : ops[i]? = some o) (hun : listed.getD i true = false) (hafter : ∀ e ∈ o.after, Region.binds .any e = true → listed.getD e.on false = true) (hd : l[i]? = some d)
    {q1 q2 : List Nat} (he : h1 ++ g :: h2 = q1 ++ i :: q2) : ∀ r ∈ readsD d, getL (tsP l vs q1 ts) r = getL tl r := by
  intro r hr
  have hlt : ∀ j ∈ q1, j < n := fun j hj => hk.lt j (by rw [he]; simp [hj])
  refine (St.textP0 (hk.uniqD hn) q1 hlt).agree hst fun j e hj hde => ?_
  have hjn := getElem?_lt hj
  rw [List.length_take] at hjn
  have hjn' : j < n := by omega
  rw [List.getElem?_take, if_pos hjn'] at hj
  have hw : wrD l r j = true := by unfold wrD; rw [hj]; simp [hde]
  obtain ⟨g1, g2⟩ := hk.reads q1 i q2 d he hd r hr
  have hjs : j < listed.size := by rw [inv.size]; have := hk.le; omega
  constructor
  · intro hjq
    obtain ⟨ed, he1, he2, he3⟩ := (mem_waitsOn ho).1 (g1 j hjq hw)
    have := hafter ed he1 he2
    rw [he3] at this
    simpa [hjs] using this
  · intro hlj
    have hmem := hk.all j hjn'
    rw [he] at hmem
    rcases List.mem_append.1 hmem with h | h
    · exact h
    · rcases List.mem_cons.1 h with h | h
      · subst h; rw [hun] at hlj; cases hlj
      · obtain ⟨oj, hoj⟩ : ∃ oj, ops[j]? = some oj := ⟨ops[j]'(by have := hk.le; omega), Array.getElem?_eq_getElem _⟩
        obtain ⟨ed, he1, he2, he3⟩ := (mem_waitsOn hoj).1 (g2 j h hw)
        have hlj' : listed.getD j false = true := by simpa [hjs] using hlj
        have := inv.closed j oj hoj hlj' ed he1 he2
        rw [he3, getD_both hun] at this
        cases this
theorem GOk.done (hk : GOk ops l n g s h1 h2) (hn : n ≤ l.length) {listed : Array Bool} (inv : HeadInv .any ops n listed) {ts tl : TS} {vs : Nat → AV} (hst : St (l.take n) ts vs (fun j => listed.getD j true = true) tl)
    (hc : cnt listed n = 0) : listed = listedN n ops.size ∧ tl = tsP l vs (h1 ++ g :: h2) ts := by
  have hall := cnt_zero n hc
  refine ⟨?_, ?_⟩
  · apply Array.ext
    · rw [inv.size]; simp [listedN]; have := hk.le; omega
    · intro i h1 h2
      rw [inv.size] at h1
      rcases Nat.lt_or_ge i n with hin | hin
      · have := hall i hin
        have e1 : listed[i] = true := by simpa [show i < listed.size by rw [inv.size]; exact h1] using this
        rw [e1]
        simp [listedN, hin]
      · have := inv.tail i hin h1
        have e1 : listed[i] = false := by simpa [show i < listed.size by rw [inv.size]; exact h1] using this
        rw [e1]
        simp [listedN, List.getElem_append, show ¬ i < n by omega]
  · have ht := St.textP0 (ts := ts) (vs := vs) (hk.uniqD hn) (h1 ++ g :: h2) hk.lt
    refine ext_getL (hst.len.trans ht.len.symm) fun r => hst.agree ht fun j d hj _ => ?_
    have := getElem?_lt hj
    rw [List.length_take] at this
    exact ⟨fun _ => hk.all j (by omega), fun _ => hall j (by omega)⟩
theorem GOk.inHead (hk : GOk ops l n g s h1 h2) {listed : Array Bool} (inv : HeadInv .any ops n listed) {i i0 : Nat} (hi0 : i0 < n) (hl0 : listed.getD i0 true = false) (hi : i ∈ Region.ready .any ops listed) (hio : i < ops.size) : i < n := by
  rcases hk.tail with h | ⟨h1, h2⟩
  · omega
  · rcases Nat.lt_or_ge i n with g | g
    · exact g
    · exact absurd hi (tail_waits h1 h2 (by omega) inv _ i0 rfl hi0 hl0 i g)
theorem GOk.put (hk : GOk ops l n g s h1 h2) (hn : n ≤ l.length) {listed : Array Bool} (inv : HeadInv .any ops n listed) {ts tl : TS} {vs : Nat → AV} (hst : St (l.take n) ts vs (fun j => listed.getD j true = true) tl)
    {i : Nat} {d : DOper} (hin : i < n) (hd : l[i]? = some d) : St (l.take n) ts vs (fun j => (listed.setIfInBounds i true).getD j true = true) (putT tl d.dst (vs i)) := by
  have hdt : (l.take n)[i]? = some d := by rw [List.getElem?_take, if_pos hin]; exact hd
  have hil : i < listed.size := by rw [inv.size]; have := hk.le; omega
  refine hst.step hdt (fun j => ?_) (fun j e hj hne he => hk.uniqD hn i j d e hdt hj hne he)
  by_cases hji : j = i
  · subst hji; simp [hil]
  · rw [getD_set_ne true (Ne.symm hji)]
    constructor
    · exact .inl
    · rintro (h | h)
      · exact h
      · exact absurd h hji
theorem GOk.cnt (hk : GOk ops l n g s h1 h2) {listed : Array Bool} {i f : Nat} (hun : listed.getD i true = false) (hin : i < n) (hc : cnt listed n = f + 1) : Fw.cnt (listed.setIfInBounds i true) n = f := by
  have := cnt_set hun n hin
  omega
/-- behind the operation that grows -/
theorem head_late (hk : GOk ops l n g s h1 h2) (hn : n ≤ l.length) (hd : ∀ (i : Nat) (o : Oper), ops[i]? = some o → ∃ d, l[i]? = some d ∧ decOper P ops o = some d)
    {ts : TS} {vs : Nat → AV} (hvs : ∀ q1 i q2 d, h1 ++ g :: h2 = q1 ++ i :: q2 → i ≠ g → l[i]? = some d → StepQ P w0 m d (tsP l vs q1 ts) (vs i)) {df : List Deferred}
    (hfin : ∀ a w, a.defers = df → RelT L (tsP l vs (h1 ++ g :: h2) ts) a → Rep w0 ow L m w → wpList P ops Q (ops.toList.drop n) a w) :
    ∀ (f : Nat) (listed : Array Bool) (a : Act) (w : World) (tl : TS), Fw.cnt listed n = f → HeadInv .any ops n listed → listed.getD g true = true → St (l.take n) ts vs (fun j => listed.getD j true = true) tl → a.defers = df → RelT L tl a → Rep w0 ow L m w →
      wpAny P .any ops Q (f + (ops.size - n)) listed a w := by
  intro f
  induction f with
  | zero =>
    intro listed a w tl hc inv hgl hst hdf hr hR
    obtain ⟨heq, rfl⟩ := hk.done hn inv hst hc
    rw [Nat.zero_add]
    have hdl : (ops.toList.drop n).length = ops.size - n := by simp
    rw [← hdl]
    refine wpAny_of_seq _ n listed a w (fun j => by simp [List.getElem?_drop]) ?_ (hfin a w hdf hr hR)
    rw [hdl, heq]; exact hk.seq
  | succ f ih =>
    intro listed a w tl hc inv hgl hst hdf hr hR
    obtain ⟨i0, hi0, hl0⟩ := cnt_pos (listed := listed) n (by omega)
    obtain ⟨j0, hj0⟩ := hk.ready i0 hi0 hl0
    rw [show f + 1 + (ops.size - n) = (f + (ops.size - n)) + 1 by omega]
    refine ⟨fun h0 => by rw [h0] at hj0; simp at hj0, fun i hi => ?_⟩
    obtain ⟨hun, o, ho, hafter⟩ := mem_ready.1 hi
    have hio : i < ops.size := by
      rcases Nat.lt_or_ge i ops.size with h' | h'
      · exact h'
      · rw [Array.getElem?_eq_none h'] at ho; cases ho
    have hin := hk.inHead inv hi0 hl0 hi hio
    obtain ⟨d, hd1, hd2⟩ := hd i o ho
    have hig : i ≠ g := fun h => by subst h; rw [hgl] at hun; cases hun
    obtain ⟨q1, q2, he⟩ := List.append_of_mem (hk.all i hin)
    have hs := hvs q1 i q2 d he hig hd1
    refine step_sound ho hd2 hr hR (hs.congr (hk.agree hn inv hst ho hun hafter hd1 he)) fun cv w' hv hR' => ?_
    have hdst := (decOper_parts hd2).1
    have hgl' : (listed.setIfInBounds i true).getD g true = true := by rw [getD_set_ne true hig]; exact hgl
    exact ih _ _ _ _ (hk.cnt hun hin hc) (inv.set hi hin) hgl' (hk.put hn inv hst hin hd1) (by rw [put_defers]; exact hdf) (by rw [← hdst]; exact hr.put _ hv) hR'
/-- an operation that waits for the one that grows comes behind it -/
theorem GOk.late (hk : GOk ops l n g s h1 h2) {listed : Array Bool} (inv : HeadInv .any ops n listed) (hgl : listed.getD g true = false) : ∀ (i : Nat), i ∈ h2 → ∀ o, ops[i]? = some o → ¬ (∀ e ∈ o.after, Region.binds .any e = true → listed.getD e.on false = true) := by
  intro i
  induction i using Nat.strongRecOn with
  | _ i ih =>
    intro hi o ho hall
    obtain ⟨j, hj, hjg⟩ := hk.dep i hi
    obtain ⟨e, he1, he2, he3⟩ := (mem_waitsOn ho).1 hj
    have hl := hall e he1 he2
    rw [he3] at hl
    rcases hjg with rfl | hj2
    · rw [getD_both hgl] at hl; cases hl
    · have hin : i < n := hk.lt i (by simp [hi])
      have hji := hk.down i hin j hj
      obtain ⟨oj, hoj⟩ : ∃ oj, ops[j]? = some oj := ⟨ops[j]'(by have := hk.le; omega), Array.getElem?_eq_getElem _⟩
      exact ih j hji hj2 oj hoj fun e' he1' he2' => inv.closed j oj hoj hl e' he1' he2'
end
end
end Go.Fw
