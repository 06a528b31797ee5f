import Derived.Test.YtfkbgfpidolhhaaFwReg3
namespace Go.Fw
open Go
section
variable {P : Program} {w0 : World} {ow : List Nat} {Q : Exit → Act → World → Prop}
variable {L : Locs} {m : MS}

theorem allSome_get {α β : Type} {f : α → Option β} : ∀ {xs : List α} {ys : List β}, allSome f xs = some ys → xs.length = ys.length ∧ ∀ (i : Nat) (x : α), xs[i]? = some x → ∃ y, ys[i]? = some y ∧ f x = some y
  | [], ys, h => by simp only [allSome, Option.some.injEq] at h; subst h; exact ⟨rfl, fun i x hx => by simp at hx⟩
  | x :: xs, ys, h => by
    simp only [allSome] at h
    split at h
    · rename_i y r h1 h2
      cases h
      obtain ⟨g1, g2⟩ := allSome_get h2
      refine ⟨by simp [g1], fun i z hz => ?_⟩
      cases i with
      | zero => simp at hz; subst hz; exact ⟨y, rfl, h1⟩
      | succ i => exact g2 i z (by simpa using hz)
    · cases h
theorem allSome_drop {α β : Type} {f : α → Option β} : ∀ (n : Nat) {xs : List α} {ys : List β}, allSome f xs = some ys → allSome f (xs.drop n) = some (ys.drop n)
  | 0, _, _, h => h
  | n + 1, [], ys, h => by simp only [allSome, Option.some.injEq] at h; subst h; rfl
  | n + 1, x :: xs, ys, h => by
    simp only [allSome] at h
    split at h
    · rename_i y r h1 h2
      cases h
      exact allSome_drop n h2
    · cases h
theorem head_any {ops : Array Oper} {l : List DOper} {n : Nat} (hk : HeadOk ops l n) (hd : ∀ (i : Nat) (o : Oper), ops[i]? = some o → ∃ d, l[i]? = some d ∧ decOper P ops o = some d) (hl : ops.size = l.length)
    {ts : TS} {vs : Nat → AV} (hvs : ∀ k d, (l.take n)[k]? = some d → StepQ P w0 m d (tsAt (l.take n) ts vs k) (vs k)) {df : List Deferred}
    (hfin : ∀ a w, a.defers = df → RelT L (tsAt (l.take n) ts vs n) a → Rep w0 ow L m w → wpList P ops Q (ops.toList.drop n) a w) :
    ∀ (f : Nat) (listed : Array Bool) (a : Act) (w : World) (tl : TS), cnt listed n = f → HeadInv .any ops n listed → St (l.take n) ts vs (fun j => listed.getD j true = true) tl → a.defers = df → RelT L tl a → Rep w0 ow L m w →
      wpAny P .any ops Q (f + (ops.size - n)) listed a w := by
  have hget : ∀ (k : Nat), k < n → (l.take n)[k]? = l[k]? := fun k hk => by rw [List.getElem?_take, if_pos hk]
  have hlen : (l.take n).length = n := by rw [List.length_take]; have := hk.le; omega
  have huniq : UniqD (l.take n) := by
    intro i j d e hi hj hne he
    have h1 := getElem?_lt hi
    have h2 := getElem?_lt hj
    rw [hlen] at h1 h2
    rw [hget i h1] at hi
    rw [hget j h2] at hj
    exact hk.uniq i j d e h1 h2 hi hj hne he
  intro f
  induction f with
  | zero =>
    intro listed a w tl hc inv hst hdf hr hR
    have hall := cnt_zero n hc
    have heq : listed = listedN n ops.size := by
      apply Array.ext
      · rw [inv.size]; simp [listedN]; have := hk.le; omega
      · intro i h1 h2
        rw [inv.size] at h1
        rcases Nat.lt_or_ge i n with hin | hin
        · have := hall i hin
          have e1 : listed[i] = true := by simpa [show i < listed.size by rw [inv.size]; exact h1] using this
          rw [e1]
          simp [listedN, hin]
        · have := inv.tail i hin h1
          have e1 : listed[i] = false := by simpa [show i < listed.size by rw [inv.size]; exact h1] using this
          rw [e1]
          simp [listedN, List.getElem_append, show ¬ i < n by omega]
    have htl : tl = tsAt (l.take n) ts vs n := by
      refine ext_getL (hst.len.trans (St.text huniq n).len.symm) fun r => hst.agree (St.text huniq n) fun j d hj _ => ?_
      have := getElem?_lt hj
      rw [hlen] at this
      exact ⟨fun _ => this, fun _ => hall j this⟩
    subst htl
    rw [Nat.zero_add]
    have hdl : (ops.toList.drop n).length = ops.size - n := by simp
    rw [← hdl]
    refine wpAny_of_seq _ n listed a w (fun j => by simp [List.getElem?_drop]) ?_ (hfin a w hdf hr hR)
    rw [hdl, heq]; exact hk.seq
  | succ f ih =>
    intro listed a w tl hc inv hst hdf hr hR
    obtain ⟨i0, hi0, hl0⟩ := cnt_pos (listed := listed) n (by omega)
    obtain ⟨j0, hj0⟩ := ready_of hk i0 hi0 hl0
    rw [show f + 1 + (ops.size - n) = (f + (ops.size - n)) + 1 by omega]
    refine ⟨fun h0 => by rw [h0] at hj0; simp at hj0, fun i hi => ?_⟩
    obtain ⟨hun, o, ho, hafter⟩ := mem_ready.1 hi
    have hio : i < ops.size := by
      rcases Nat.lt_or_ge i ops.size with h' | h'
      · exact h'
      · rw [Array.getElem?_eq_none h'] at ho; cases ho
    have hin : i < n := by
      rcases hk.tail with h | ⟨h1, h2⟩
      · omega
      · rcases Nat.lt_or_ge i n with g | g
        · exact g
        · exact absurd hi (tail_waits h1 h2 (by omega) inv _ i0 rfl hi0 hl0 i g)
    obtain ⟨d, hd1, hd2⟩ := hd i o ho
    have hdt : (l.take n)[i]? = some d := by rw [hget i hin]; exact hd1
    have hs := hvs i d hdt
    have hagree : ∀ r ∈ readsD d, getL (tsAt (l.take n) ts vs i) r = getL tl r := by
      intro r hr'
      refine (St.text huniq i).agree hst fun j e hj he => ?_
      have hjn := getElem?_lt hj
      rw [hlen] at hjn
      rw [hget j hjn] at hj
      obtain ⟨g1, g2⟩ := hk.reads i d hin hd1 r hr' j e hjn hj he
      constructor
      · intro hlt
        obtain ⟨ed, he1, he2, he3⟩ := (mem_waitsOn ho).1 (g1 hlt)
        have := hafter ed he1 he2
        rw [he3] at this
        have hjs : j < listed.size := by rw [inv.size]; have := hk.le; omega
        simpa [hjs] using this
      · intro hlj
        rcases Nat.lt_trichotomy j i with h | h | h
        · exact h
        · subst h; rw [hun] at hlj; cases hlj
        · have hjo : ∃ oj, ops[j]? = some oj := ⟨ops[j]'(by have := hk.le; omega), Array.getElem?_eq_getElem _⟩
          obtain ⟨oj, hoj⟩ := hjo
          obtain ⟨ed, he1, he2, he3⟩ := (mem_waitsOn hoj).1 (g2 h)
          have hjs : j < listed.size := by rw [inv.size]; have := hk.le; omega
          have hlj' : listed.getD j false = true := by simpa [hjs] using hlj
          have := inv.closed j oj hoj hlj' ed he1 he2
          rw [he3, getD_both hun] at this
          cases this
    refine step_sound ho hd2 hr hR (hs.congr hagree) fun cv w' hv hR' => ?_
    have hdst := (decOper_parts hd2).1
    have hcnt : cnt (listed.setIfInBounds i true) n = f := by
      have := cnt_set hun n hin
      omega
    have hil : i < listed.size := by rw [inv.size]; exact hio
    have hst' : St (l.take n) ts vs (fun j => (listed.setIfInBounds i true).getD j true = true) (putT tl d.dst (vs i)) := by
      refine hst.step hdt (fun j => ?_) (fun j e hj hne he => huniq i j d e hdt hj hne he)
      by_cases hji : j = i
      · subst hji; simp [hil]
      · rw [getD_set_ne true (Ne.symm hji)]
        constructor
        · exact .inl
        · rintro (h | h)
          · exact h
          · exact absurd h hji
    exact ih _ _ _ _ hcnt (inv.set hi hin) hst' (by rw [put_defers]; exact hdf) (by rw [← hdst]; exact hr.put _ hv) hR'
theorem quietLen_quiet : ∀ (l : List DOper) (d : DOper), d ∈ l.take (quietLen l) → quiet d.op = true
  | [], d, h => by simp at h
  | e :: l, d, h => by
    simp only [quietLen] at h
    split at h
    · rename_i hq
      simp only [List.take_succ_cons, List.mem_cons] at h
      rcases h with rfl | h
      · exact hq
      · exact quietLen_quiet l d h
    · simp at h
theorem region_any {ops : Array Oper} {L0 : Locs} {ts : TS} {a : Act} {w : World} {K : TS → MS → Prop} {id : Nat} {ld : List DOper} (hm : P.follows .mixedOrders = true) (hd : allSome (decOper P ops) ops.toList = some ld)
    (hck : checkDraw ops ld (quietLen ld) = true) (hx : Ext L0 L) (hdf : a.defers = []) (hr : RelT L ts a) (hR : Rep w0 ow L m w)
    (h : qops P w0 (ld.take (quietLen ld)) ts m fun ts => aops P w0 L0.length (ld.drop (quietLen ld)) ts m K) (hQ : ∀ a w, Good w0 ow L0 K a w → Q .normal a w) : (Code.region id ops true).wp P Q a w := by
  have hk := checkDraw_sound hck
  obtain ⟨vs, h1, h2⟩ := qops_run _ _ (quietLen_quiet ld) h
  obtain ⟨hlen, hget⟩ := allSome_get hd
  have hlt : (ld.take (quietLen ld)).length = quietLen ld := by rw [List.length_take]; have := hk.le; simp at hlen; omega
  rw [hlt] at h2
  refine wp_region_any hm ?_
  have := head_any (P := P) (w0 := w0) (ow := ow) (Q := Q) (L := L) (m := m) hk (fun i o ho => hget i o (by simpa using ho)) (by simpa using hlen) h1 (df := [])
    (fun a w hdf hr hR => aops_list hQ _ _ L _ m a w (allSome_drop (quietLen ld) hd) hx hdf hr hR h2)
    (quietLen ld) (Array.replicate ops.size false) a w.drew ts (cnt_all _ hk.le)
    ⟨by simp, fun j oj _ hl => (by rw [getD_replicate_false] at hl; cases hl), fun t _ ht => getD_in (by simpa using ht) (getD_replicate_false _ _)⟩
    ⟨rfl, fun r j d hr hj hdd hs => ?_, fun _ _ _ => rfl⟩ hdf hr hR.drew
  · rw [show quietLen ld + (ops.size - quietLen ld) = ops.size by have := hk.le; omega] at this
    exact this
  · have := getElem?_lt hj
    rw [hlt] at this
    have hh := hk.le
    rw [getD_in (by simp; omega) (getD_replicate_false _ _)] at hs
    cases hs
end
end Go.Fw
