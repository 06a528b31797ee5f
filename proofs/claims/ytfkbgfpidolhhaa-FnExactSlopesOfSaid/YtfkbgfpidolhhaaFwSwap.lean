import Derived.Test.YtfkbgfpidolhhaaFwOp7
namespace Go.Fw
open Go
mutual
def idsOk (S : Nat → Prop) : AV → Prop
  | .ptr id _ => S id
  | .sl id _ _ _ _ cap => S id ∨ cap = 0
  | .st fs => idsOkL S fs
  | .fn _ fs => idsOkL S fs
  | .tup fs => idsOkL S fs
  | .ifc _ x => idsOk S x
  | _ => True
def idsOkL (S : Nat → Prop) : List AV → Prop
  | [] => True
  | x :: xs => idsOk S x ∧ idsOkL S xs
end
mutual
theorem mentions_ok (i : Nat) : ∀ (a : AV), mentions i a = false → idsOk (fun j => j ≠ i) a
  | .ptr id _, h => by simp only [mentions] at h; simp only [idsOk]; intro he; subst he; simp at h
  | .sl id _ _ _ _ _, h => by simp only [mentions] at h; simp only [idsOk]; exact .inl (by intro he; subst he; simp at h)
  | .st fs, h => by simp only [mentions] at h; simp only [idsOk]; exact mentionsL_ok i fs h
  | .fn _ fs, h => by simp only [mentions] at h; simp only [idsOk]; exact mentionsL_ok i fs h
  | .tup fs, h => by simp only [mentions] at h; simp only [idsOk]; exact mentionsL_ok i fs h
  | .ifc _ x, h => by simp only [mentions] at h; simp only [idsOk]; exact mentions_ok i x h
  | .raw _, _ => by simp [idsOk]
  | .flt _ _, _ => by simp [idsOk]
  | .cpx _ _ _, _ => by simp [idsOk]
  | .ai _ _, _ => by simp [idsOk]
  | .af _ _, _ => by simp [idsOk]
  | .ac _ _, _ => by simp [idsOk]
  | .ap _ _, _ => by simp [idsOk]
  | .junk, _ => by simp [idsOk]
theorem mentionsL_ok (i : Nat) : ∀ (l : List AV), mentionsL i l = false → idsOkL (fun j => j ≠ i) l
  | [], _ => by simp [idsOkL]
  | x :: xs, h => by
    simp only [mentionsL] at h
    split at h
    · cases h
    · rename_i hx; simp only [idsOkL]; exact ⟨mentions_ok i x hx, mentionsL_ok i xs h⟩
end
mutual
theorem below_ok (k : Nat) : ∀ (a : AV), below k a = true → idsOk (fun j => j < k) a
  | .ptr id _, h => by simp only [below] at h; simp only [idsOk]; simpa [Nat.blt_eq] using h
  | .sl id _ _ _ _ cap, h => by
    simp only [below] at h; simp only [idsOk]
    split at h
    · rename_i hx; exact .inl (by simpa [Nat.blt_eq] using hx)
    · exact .inr (by simpa using h)
  | .st fs, h => by simp only [below] at h; simp only [idsOk]; exact belowL_ok k fs h
  | .fn _ fs, h => by simp only [below] at h; simp only [idsOk]; exact belowL_ok k fs h
  | .tup fs, h => by simp only [below] at h; simp only [idsOk]; exact belowL_ok k fs h
  | .ifc _ x, h => by simp only [below] at h; simp only [idsOk]; exact below_ok k x h
  | .raw _, _ => by simp [idsOk]
  | .flt _ _, _ => by simp [idsOk]
  | .cpx _ _ _, _ => by simp [idsOk]
  | .ai _ _, _ => by simp [idsOk]
  | .af _ _, _ => by simp [idsOk]
  | .ac _ _, _ => by simp [idsOk]
  | .ap _ _, _ => by simp [idsOk]
  | .junk, _ => by simp [idsOk]
theorem belowL_ok (k : Nat) : ∀ (l : List AV), belowL k l = true → idsOkL (fun j => j < k) l
  | [], _ => by simp [idsOkL]
  | x :: xs, h => by
    simp only [belowL] at h
    split at h
    · rename_i hx; simp only [idsOkL]; exact ⟨below_ok k x hx, belowL_ok k xs h⟩
    · cases h
end
def Agree (S : Nat → Prop) (L L' : Locs) : Prop := ∀ (j : Nat) (p : Nat × Nat), S j → L[j]? = some p → L'[j]? = some p
section
variable {S : Nat → Prop} {L L' : Locs}
mutual
theorem Rs.swap (hs : Agree S L L') : ∀ (a : AV) (w : Value), idsOk S a → Rs L a w → Rs L' a w
  | .raw _, _, _, h => h
  | .flt _ _, _, _, h => h
  | .cpx _ _ _, _, _, h => h
  | .ptr _ _, _, hi, ⟨b, o, h1, h2⟩ => ⟨b, o, hs _ _ hi h1, h2⟩
  | .sl _ _ _ _ _ _, _, hi, ⟨a, h1, h2, h3⟩ => by
    refine ⟨a, h1, h2, ?_⟩
    rcases h3 with h3 | ⟨b, o, h4, h5⟩
    · exact .inl h3
    · simp only [idsOk] at hi
      rcases hi with hi | hi
      · exact .inr ⟨b, o, hs _ _ hi h4, h5⟩
      · exact .inl hi
  | .fn _ caps, _, hi, ⟨cs, h1, h2⟩ => ⟨cs, h1, RsL.swap hs caps cs hi h2⟩
  | .ifc _ x, _, hi, ⟨v, h1, h2⟩ => ⟨v, h1, Rs.swap hs x v hi h2⟩
  | .st _, _, _, h => by simp [Rs] at h
  | .ai _ _, _, _, h => by simp [Rs] at h
  | .af _ _, _, _, h => by simp [Rs] at h
  | .ac _ _, _, _, h => by simp [Rs] at h
  | .ap _ _, _, _, h => by simp [Rs] at h
  | .tup _, _, _, h => by simp [Rs] at h
  | .junk, _, _, h => by simp [Rs] at h
theorem RsL.swap (hs : Agree S L L') : ∀ (a : List AV) (w : List Value), idsOkL S a → RsL L a w → RsL L' a w
  | [], _, _, h => h
  | x :: xs, _, hi, ⟨v, r, h1, h2, h3⟩ => ⟨v, r, h1, Rs.swap hs x v hi.1 h2, RsL.swap hs xs r hi.2 h3⟩
end
mutual
theorem Fl.swap (hs : Agree S L L') : ∀ (a : AV) (cs : List Value), idsOk S a → Fl L a cs → Fl L' a cs
  | .st fs, cs, hi, h => by simp only [Fl] at h ⊢; exact FlL.swap hs fs cs hi h
  | .ai _ _, _, _, h => h
  | .af _ _, _, _, h => h
  | .ac _ _, _, _, h => h
  | .ap _ _, _, _, h => h
  | .tup _, _, _, h => by simp [Fl] at h
  | .raw _, _, hi, ⟨v, h1, h2⟩ => ⟨v, h1, Rs.swap hs _ _ hi h2⟩
  | .flt _ _, _, hi, ⟨v, h1, h2⟩ => ⟨v, h1, Rs.swap hs _ _ hi h2⟩
  | .cpx _ _ _, _, hi, ⟨v, h1, h2⟩ => ⟨v, h1, Rs.swap hs _ _ hi h2⟩
  | .ptr _ _, _, hi, ⟨v, h1, h2⟩ => ⟨v, h1, Rs.swap hs _ _ hi h2⟩
  | .sl _ _ _ _ _ _, _, hi, ⟨v, h1, h2⟩ => ⟨v, h1, Rs.swap hs _ _ hi h2⟩
  | .fn _ _, _, hi, ⟨v, h1, h2⟩ => ⟨v, h1, Rs.swap hs _ _ hi h2⟩
  | .ifc _ _, _, hi, ⟨v, h1, h2⟩ => ⟨v, h1, Rs.swap hs _ _ hi h2⟩
  | .junk, _, _, ⟨v, h1, h2⟩ => by simp [Rs] at h2
theorem FlL.swap (hs : Agree S L L') : ∀ (a : List AV) (cs : List Value), idsOkL S a → FlL L a cs → FlL L' a cs
  | [], _, _, h => h
  | x :: xs, _, hi, ⟨c, r, h1, h2, h3⟩ => ⟨c, r, h1, Fl.swap hs x c hi.1 h2, FlL.swap hs xs r hi.2 h3⟩
end
theorem Rn.swap (hs : Agree S L L') {a : AV} {w : Value} (hi : idsOk S a) (h : Rn L a w) : Rn L' a w := by
  unfold Rn at *
  split
  · rename_i ha; rw [if_pos ha] at h; obtain ⟨cs, h1, h2⟩ := h; exact ⟨cs, h1, h2.swap hs _ _ hi⟩
  · rename_i ha; rw [if_neg ha] at h; exact h.swap hs _ _ hi
theorem RnL.swap (hs : Agree S L L') : ∀ {a : List AV} {w : List Value}, idsOkL S a → RnL L a w → RnL L' a w
  | [], _, _, h => h
  | _ :: _, _, hi, ⟨v, r, h1, h2, h3⟩ => ⟨v, r, h1, h2.swap hs hi.1, h3.swap hs hi.2⟩
theorem Rv.swap (hs : Agree S L L') {a : AV} {w : Value} (hi : idsOk S a) (h : Rv L a w) : Rv L' a w := by
  cases a
  case tup vs => obtain ⟨ws, h1, h2⟩ := h; exact ⟨ws, h1, h2.swap hs hi⟩
  case junk => trivial
  all_goals exact Rn.swap hs hi h
end
/-- The entries counted anew. -/
theorem Rep.reindex {w0 : World} {o : List Nat} {L L' : Locs} {m m' : MS} {w : World} (h : Rep w0 o L m w) (σ : Nat → Nat) (hl : L'.length = m'.length)
    (hm : ∀ (k : Nat) (e : Ent), m'[k]? = some e → m[σ k]? = some e) (hL : ∀ (k : Nat) (p : Nat × Nat), L'[k]? = some p → L[σ k]? = some p) (hinj : ∀ i j, i < m'.length → j < m'.length → i ≠ j → σ i ≠ σ j)
    (hc : ∀ (k : Nat) (e : Ent) cs, m'[k]? = some e → Fl L e.c cs → Fl L' e.c cs) : Rep w0 o L' m' w := by
  refine ⟨h.grow, hl, ?_, ?_, ?_⟩
  · intro i e p hi hp
    have hk := h.ok _ e p (hm i e hi) (hL i p hp)
    obtain ⟨cs, h1, h2⟩ := hk.cells
    exact ⟨⟨cs, hc i e cs hi h1, h2⟩, hk.own⟩
  · intro i e p hi hp ho
    exact h.own _ e p (hm i e hi) (hL i p hp) ho
  · intro i j e f p q hij hi hj hp hq ho hgz
    exact h.apart _ _ e f p q (hinj i j (getElem?_lt hi) (getElem?_lt hj) hij) (hm i e hi) (hm j f hj) (hL i p hp) (hL j q hq) ho hgz
theorem killK_eq (i : Nat) (ts : TS) (k : TS → Prop) : killK i ts k = k (ts.map fun x => if mentions i x then .junk else x) := by
  induction ts generalizing k with
  | nil => rfl
  | cons x xs ih =>
    simp only [killK, ih, List.map_cons]
    cases mentions i x <;> rfl
theorem aloneM_ok {i : Nat} : ∀ {m : MS}, aloneM i m = true → ∀ (k : Nat) (e : Ent), m[k]? = some e → mentions i e.c = false
  | [], _, k, e, h => by simp at h
  | x :: m, h, k, e, hk => by
    simp only [aloneM] at h
    split at h
    · cases h
    · rename_i hx
      cases k with
      | zero => simp at hk; subst hk; exact hx
      | succ k => exact aloneM_ok h k e (by simpa using hk)
theorem getL_map (f : AV → AV) (hf : f (.tup []) = .tup []) : ∀ (ts : TS) (i : Nat), getL (ts.map f) i = f (getL ts i)
  | [], i => by simp [getL, hf]
  | x :: xs, 0 => rfl
  | x :: xs, i + 1 => getL_map f hf xs i
theorem belowM_ok {i : Nat} : ∀ {m : MS}, belowM i m = true → ∀ (k : Nat) (e : Ent), m[k]? = some e → below i e.c = true
  | [], _, k, e, h => by simp at h
  | x :: m, h, k, e, hk => by
    simp only [belowM] at h
    split at h
    · rename_i hx
      cases k with
      | zero => simp at hk; subst hk; exact hx
      | succ k => exact belowM_ok h k e (by simpa using hk)
    · cases h
theorem idsOkL_getL {S : Nat → Prop} : ∀ {ts : List AV}, idsOkL S ts → ∀ i, idsOk S (getL ts i)
  | [], _, i => by simp [getL, idsOk, idsOkL]
  | x :: xs, h, 0 => h.1
  | x :: xs, h, i + 1 => idsOkL_getL h.2 i
/-- The last blocks left away. -/
theorem trim_sound {w0 : World} {o : List Nat} {L0 L : Locs} {m m' : MS} {ts : TS} {a : Act} {w : World} (hx : Ext L0 L) (hr : RelT L ts a) (hR : Rep w0 o L m w) (h : Trim L0.length ts m m') :
    ∃ L', Ext L0 L' ∧ RelT L' ts a ∧ Rep w0 o L' m' w := by
  rcases h with rfl | ⟨k, h1, rfl, h2, h3⟩
  · exact ⟨L, hx, hr, hR⟩
  · have hag : Agree (fun j => j < k) L (L.take k) := fun j p hj hp => by rw [List.getElem?_take, if_pos hj]; exact hp
    refine ⟨L.take k, fun i p hp => ?_, ⟨hr.1, fun i => (hr.2 i).swap hag (idsOkL_getL (belowL_ok k ts h2) i)⟩, ?_⟩
    · rw [List.getElem?_take, if_pos (by have := getElem?_lt hp; omega)]; exact hx i p hp
    · refine hR.reindex (fun k => k) (by simp [hR.len]) (fun j e hj => ?_) (fun j p hj => ?_) (fun _ _ _ _ h => h) (fun j e cs hj hf => hf.swap hag _ _ (below_ok k _ (belowM_ok h3 j e hj)))
      · rw [List.getElem?_take] at hj; split at hj
        · exact hj
        · cases hj
      · rw [List.getElem?_take] at hj; split at hj
        · exact hj
        · cases hj
theorem weak_sound {L : Locs} {a : Act} : ∀ {ts ts' : TS}, Weak ts ts' → RelT L ts a → RelT L ts' a := by
  have key : ∀ (ts ts' : TS), Weak ts ts' → ts.length = ts'.length ∧ ∀ i, getL ts' i = getL ts i ∨ getL ts' i = .junk := by
    intro ts
    induction ts with
    | nil =>
      intro ts' h
      cases ts' with
      | nil => exact ⟨rfl, fun i => .inl rfl⟩
      | cons y ys => exact h.elim
    | cons x xs ih =>
      intro ts' h
      cases ts' with
      | nil => exact h.elim
      | cons y ys =>
        obtain ⟨g1, g2⟩ := ih ys h.2
        refine ⟨by simp [g1], fun i => ?_⟩
        cases i with
        | zero => exact h.1
        | succ i => exact g2 i
  intro ts ts' h hr
  obtain ⟨g1, g2⟩ := key ts ts' h
  refine ⟨by rw [← g1]; exact hr.1, fun i => ?_⟩
  rcases g2 i with h' | h'
  · rw [h']; exact hr.2 i
  · rw [h']; trivial
end Go.Fw
