import Derived.Test.YtfkbgfpidolhhaaFwDec
import Derived.Laws.World
import Derived.Laws.Cells
import Derived.Laws.AppendOwn
import Derived.Laws.IdiomCopy
namespace Go.Fw
open Go

/-! the continuation forms in plain words -/
theorem getK_eq (ts : TS) (n : Nat) (k : AV → Prop) : getK ts n k = k (getL ts n) := by
  induction ts generalizing n with
  | nil => rfl
  | cons x xs ih => cases n with
    | zero => rfl
    | succ n => exact ih n
theorem setK_eq (ts : TS) (n : Nat) (v : AV) (k : TS → Prop) : setK ts n v k = k (ts.set n v) := by
  induction ts generalizing n k with
  | nil => rfl
  | cons x xs ih => cases n with
    | zero => rfl
    | succ n => exact ih n _
theorem snocK_eq {α : Type} (l : List α) (v : α) (k : List α → Prop) : snocK l v k = k (l ++ [v]) := by
  induction l generalizing k with
  | nil => rfl
  | cons x xs ih => exact ih _
theorem catK_eq {α : Type} (l r : List α) (k : List α → Prop) : catK l r k = k (l ++ r) := by
  induction l generalizing k with
  | nil => rfl
  | cons x xs ih => exact ih _
theorem setEK_eq (m : MS) (n : Nat) (e : Ent) (k : MS → Prop) : setEK m n e k = k (m.set n e) := by
  induction m generalizing n k with
  | nil => rfl
  | cons x xs ih => cases n with
    | zero => rfl
    | succ n => exact ih n _
theorem newK_eq (m : MS) (c : AV) (r : Nat) (k : Nat → MS → Prop) : newK m c r k = k m.length (m ++ [⟨true, c, r⟩]) := by
  induction m generalizing k with
  | nil => rfl
  | cons x xs ih => exact ih _
theorem getE_eq (m : MS) (n : Nat) : getE m n = m[n]? := by
  induction m generalizing n with
  | nil => rfl
  | cons x xs ih => cases n with
    | zero => rfl
    | succ n => exact ih n
theorem getL_set (ts : TS) (d : Nat) (v : AV) (i : Nat) (h : d < ts.length) : getL (ts.set d v) i = if d = i then v else getL ts i := by
  induction ts generalizing d i with
  | nil => simp at h
  | cons x xs ih => cases d with
    | zero => cases i <;> simp [getL]
    | succ d => cases i with
      | zero => simp [getL]
      | succ i => simp only [List.set_cons_succ, getL]; rw [ih d i (by simpa using h)]; simp
def evD (ts : TS) : DOpd → AV
  | .t n => getL ts n
  | .c a => a
theorem evK_eq (ts : TS) (x : DOpd) (k : AV → Prop) : evK ts x k = k (evD ts x) := by
  cases x with
  | t n => exact getK_eq ts n k
  | c a => rfl
theorem evLK_eq (ts : TS) (xs : List DOpd) (k : List AV → Prop) : evLK ts xs k = k (xs.map (evD ts)) := by
  induction xs generalizing k with
  | nil => rfl
  | cons x xs ih => simp only [evLK, evK_eq, List.map_cons]; exact ih _

/-! reading symbols -/
abbrev Locs := List (Nat × Nat)
def pathOff : List Step → Nat
  | [] => 0
  | .fld _ o :: p => o + pathOff p
  | .idx i s :: p => i * s + pathOff p
def stepOff : Step → Nat
  | .fld _ o => o
  | .idx i s => i * s
theorem pathOff_cons (s : Step) (p : List Step) : pathOff (s :: p) = stepOff s + pathOff p := by cases s <;> rfl
theorem pathOff_snoc (p : List Step) (s : Step) : pathOff (p ++ [s]) = pathOff p + stepOff s := by
  induction p with
  | nil => rw [List.nil_append, pathOff_cons]; simp [pathOff]
  | cons x xs ih => rw [List.cons_append, pathOff_cons, pathOff_cons, ih]; omega

mutual
/-- a value of one cell -/
def Rs (L : Locs) : AV → Value → Prop
  | .raw v, w => w = v ∧ v.oneCell' = true
  | .flt k x, w => ∃ b, w = .float k b ∧ canon k b = x
  | .cpx k x y, w => ∃ a b, w = .complex k a b ∧ canon k a = x ∧ canon k b = y
  | .ptr id p, w => ∃ b o, L[id]? = some (b, o) ∧ w = .pointer (some ⟨b, o + pathOff p, none⟩)
  | .sl id p esz lo len cap, w => ∃ a, w = .slice a len cap ∧ len ≤ cap ∧ (cap = 0 ∨ ∃ b o, L[id]? = some (b, o) ∧ a = some ⟨b, o + pathOff p + lo * esz, none⟩)
  | .fn f caps, w => ∃ cs, w = .func (.func f) #[] cs.toArray ∧ RsL L caps cs
  | .ifc t x, w => ∃ v, w = .iface t v ∧ Rs L x v
  | _, _ => False
def RsL (L : Locs) : List AV → List Value → Prop
  | [], ws => ws = []
  | x :: xs, ws => ∃ v r, ws = v :: r ∧ Rs L x v ∧ RsL L xs r
end
def Ff : List Nat → List Value → Prop
  | [], cs => cs = []
  | x :: xs, cs => ∃ b r, cs = .float .f32 b :: r ∧ canon .f32 b = x ∧ Ff xs r
def Fc : List (Nat × Nat) → List Value → Prop
  | [], cs => cs = []
  | x :: xs, cs => ∃ a b r, cs = .complex .f32 a b :: r ∧ canon .f32 a = x.1 ∧ canon .f32 b = x.2 ∧ Fc xs r
def cellsP : List (Int × Int) → List Value
  | [] => []
  | x :: xs => .int .i64 x.1 :: .int .i64 x.2 :: cellsP xs
mutual
/-- the cells of a value that is no tuple -/
def Fl (L : Locs) : AV → List Value → Prop
  | .st fs, cs => FlL L fs cs
  | .ai n xs, cs => xs.length = n ∧ cs = xs.map (Value.int .i64)
  | .af n xs, cs => xs.length = n ∧ Ff xs cs
  | .ac n xs, cs => xs.length = n ∧ Fc xs cs
  | .ap n xs, cs => xs.length = n ∧ cs = cellsP xs
  | .tup _, _ => False
  | a, cs => ∃ v, cs = [v] ∧ Rs L a v
def FlL (L : Locs) : List AV → List Value → Prop
  | [], cs => cs = []
  | x :: xs, cs => ∃ c r, cs = c ++ r ∧ Fl L x c ∧ FlL L xs r
end
/-- a value that is no tuple -/
def Rn (L : Locs) (a : AV) (w : Value) : Prop := if agA a then ∃ cs, w = .agg cs.toArray ∧ Fl L a cs else Rs L a w
def RnL (L : Locs) : List AV → List Value → Prop
  | [], ws => ws = []
  | x :: xs, ws => ∃ v r, ws = v :: r ∧ Rn L x v ∧ RnL L xs r
def Rv (L : Locs) : AV → Value → Prop
  | .tup vs, w => ∃ ws, w = .tuple ws.toArray ∧ RnL L vs ws
  | .junk, _ => True
  | a, w => Rn L a w
def RvL (L : Locs) : List AV → List Value → Prop
  | [], ws => ws = []
  | x :: xs, ws => ∃ v r, ws = v :: r ∧ Rv L x v ∧ RvL L xs r

/-! more blocks: what was read reads so still -/
def Ext (L L' : Locs) : Prop := ∀ (i : Nat) (p : Nat × Nat), L[i]? = some p → L'[i]? = some p
theorem Ext.refl (L : Locs) : Ext L L := fun _ _ h => h
theorem Ext.trans {L1 L2 L3 : Locs} (h : Ext L1 L2) (h' : Ext L2 L3) : Ext L1 L3 := fun i p x => h' i p (h i p x)
theorem Ext.append (L X : Locs) : Ext L (L ++ X) := fun i p h => by
  have hi : i < L.length := by
    rcases Nat.lt_or_ge i L.length with h' | h'
    · exact h'
    · rw [List.getElem?_eq_none h'] at h; cases h
  rw [List.getElem?_append_left hi]; exact h
mutual
theorem Rs.sub {L L' : Locs} (hs : Ext L L') : ∀ (a : AV) (w : Value), Rs L a w → Rs L' a w
  | .raw _, _, h => h
  | .flt _ _, _, h => h
  | .cpx _ _ _, _, h => h
  | .ptr _ _, _, ⟨b, o, h1, h2⟩ => ⟨b, o, hs _ _ h1, h2⟩
  | .sl _ _ _ _ _ _, _, ⟨a, h1, h2, h3⟩ => ⟨a, h1, h2, h3.imp id fun ⟨b, o, h4, h5⟩ => ⟨b, o, hs _ _ h4, h5⟩⟩
  | .fn _ caps, _, ⟨cs, h1, h2⟩ => ⟨cs, h1, RsL.sub hs caps cs h2⟩
  | .ifc _ x, _, ⟨v, h1, h2⟩ => ⟨v, h1, Rs.sub hs x v h2⟩
  | .st _, _, h => by simp [Rs] at h
  | .ai _ _, _, h => by simp [Rs] at h
  | .af _ _, _, h => by simp [Rs] at h
  | .ac _ _, _, h => by simp [Rs] at h
  | .ap _ _, _, h => by simp [Rs] at h
  | .tup _, _, h => by simp [Rs] at h
  | .junk, _, h => by simp [Rs] at h
theorem RsL.sub {L L' : Locs} (hs : Ext L L') : ∀ (a : List AV) (w : List Value), RsL L a w → RsL L' a w
  | [], _, h => h
  | x :: xs, _, ⟨v, r, h1, h2, h3⟩ => ⟨v, r, h1, Rs.sub hs x v h2, RsL.sub hs xs r h3⟩
end
theorem Fl_scalar {L : Locs} {a : AV} {cs : List Value} (h : agA a = false) (ht : ∀ vs, a ≠ .tup vs) : Fl L a cs ↔ ∃ v, cs = [v] ∧ Rs L a v := by
  cases a <;> first | rfl | (simp [agA] at h; done) | exact absurd rfl (ht _)
mutual
theorem Fl.sub {L L' : Locs} (hs : Ext L L') : ∀ (a : AV) (cs : List Value), Fl L a cs → Fl L' a cs
  | .st fs, cs, h => by simp only [Fl] at h ⊢; exact FlL.sub hs fs cs h
  | .ai _ _, _, h => h
  | .af _ _, _, h => h
  | .ac _ _, _, h => h
  | .ap _ _, _, h => h
  | .tup _, _, h => by simp [Fl] at h
  | .raw _, _, ⟨v, h1, h2⟩ => ⟨v, h1, Rs.sub hs _ _ h2⟩
  | .flt _ _, _, ⟨v, h1, h2⟩ => ⟨v, h1, Rs.sub hs _ _ h2⟩
  | .cpx _ _ _, _, ⟨v, h1, h2⟩ => ⟨v, h1, Rs.sub hs _ _ h2⟩
  | .ptr _ _, _, ⟨v, h1, h2⟩ => ⟨v, h1, Rs.sub hs _ _ h2⟩
  | .sl _ _ _ _ _ _, _, ⟨v, h1, h2⟩ => ⟨v, h1, Rs.sub hs _ _ h2⟩
  | .fn _ _, _, ⟨v, h1, h2⟩ => ⟨v, h1, Rs.sub hs _ _ h2⟩
  | .ifc _ _, _, ⟨v, h1, h2⟩ => ⟨v, h1, Rs.sub hs _ _ h2⟩
  | .junk, _, ⟨v, h1, h2⟩ => by simp [Rs] at h2
theorem FlL.sub {L L' : Locs} (hs : Ext L L') : ∀ (a : List AV) (cs : List Value), FlL L a cs → FlL L' a cs
  | [], _, h => h
  | x :: xs, _, ⟨c, r, h1, h2, h3⟩ => ⟨c, r, h1, Fl.sub hs x c h2, FlL.sub hs xs r h3⟩
end
theorem Rn.sub {L L' : Locs} (hs : Ext L L') {a : AV} {w : Value} (h : Rn L a w) : Rn L' a w := by
  unfold Rn at *
  split
  · rename_i ha; rw [if_pos ha] at h; obtain ⟨cs, h1, h2⟩ := h; exact ⟨cs, h1, h2.sub hs⟩
  · rename_i ha; rw [if_neg ha] at h; exact h.sub hs
theorem RnL.sub {L L' : Locs} (hs : Ext L L') : ∀ {a : List AV} {w : List Value}, RnL L a w → RnL L' a w
  | [], _, h => h
  | _ :: _, _, ⟨v, r, h1, h2, h3⟩ => ⟨v, r, h1, h2.sub hs, h3.sub hs⟩
theorem Rv_of_Rn {L : Locs} {a : AV} {w : Value} (h : Rn L a w) : Rv L a w := by
  cases a <;> first | exact h | (simp [Rn, agA, Rs] at h)
theorem Rn_of_Rv {L : Locs} {a : AV} {w : Value} (ht : ∀ vs, a ≠ .tup vs) (hj : a ≠ .junk) (h : Rv L a w) : Rn L a w := by
  cases a <;> first | exact h | exact absurd rfl (ht _) | exact absurd rfl hj
theorem Rv.sub {L L' : Locs} (hs : Ext L L') {a : AV} {w : Value} (h : Rv L a w) : Rv L' a w := by
  cases a
  case tup vs => obtain ⟨ws, h1, h2⟩ := h; exact ⟨ws, h1, h2.sub hs⟩
  case junk => trivial
  all_goals exact Rn.sub hs h
theorem RvL.sub {L L' : Locs} (hs : Ext L L') : ∀ {a : List AV} {w : List Value}, RvL L a w → RvL L' a w
  | [], _, h => h
  | _ :: _, _, ⟨v, r, h1, h2, h3⟩ => ⟨v, r, h1, h2.sub hs, h3.sub hs⟩

/-! how many cells; that each is one -/
theorem Ff_length : ∀ {xs : List Nat} {cs : List Value}, Ff xs cs → cs.length = xs.length
  | [], _, h => by simp [Ff] at h; simp [h]
  | _ :: _, _, ⟨_, _, h1, _, h3⟩ => by simp [h1, Ff_length h3]
theorem Fc_length : ∀ {xs : List (Nat × Nat)} {cs : List Value}, Fc xs cs → cs.length = xs.length
  | [], _, h => by simp [Fc] at h; simp [h]
  | _ :: _, _, ⟨_, _, _, h1, _, _, h3⟩ => by simp [h1, Fc_length h3]
theorem cellsP_length : ∀ (xs : List (Int × Int)), (cellsP xs).length = 2 * xs.length
  | [] => rfl
  | _ :: xs => by simp [cellsP, cellsP_length xs]; omega
mutual
theorem Fl_length {L : Locs} : ∀ (a : AV) (cs : List Value), Fl L a cs → cs.length = szA a
  | .st fs, cs, h => by simp only [Fl] at h; simp only [szA]; exact FlL_length fs cs h
  | .ai _ _, _, ⟨h1, h2⟩ => by simp [h2, szA, h1]
  | .af _ _, _, ⟨h1, h2⟩ => by rw [Ff_length h2, h1]; rfl
  | .ac _ _, _, ⟨h1, h2⟩ => by rw [Fc_length h2, h1]; rfl
  | .ap _ _, _, ⟨h1, h2⟩ => by rw [h2, cellsP_length, h1]; rfl
  | .tup _, _, h => by simp [Fl] at h
  | .raw _, _, ⟨_, h1, _⟩ => by simp [h1, szA]
  | .flt _ _, _, ⟨_, h1, _⟩ => by simp [h1, szA]
  | .cpx _ _ _, _, ⟨_, h1, _⟩ => by simp [h1, szA]
  | .ptr _ _, _, ⟨_, h1, _⟩ => by simp [h1, szA]
  | .sl _ _ _ _ _ _, _, ⟨_, h1, _⟩ => by simp [h1, szA]
  | .fn _ _, _, ⟨_, h1, _⟩ => by simp [h1, szA]
  | .ifc _ _, _, ⟨_, h1, _⟩ => by simp [h1, szA]
theorem FlL_length {L : Locs} : ∀ (a : List AV) (cs : List Value), FlL L a cs → cs.length = szL a
  | [], _, h => by simp [FlL] at h; simp [h, szL]
  | x :: xs, _, ⟨c, r, h1, h2, h3⟩ => by simp [h1, szL, Fl_length x c h2, FlL_length xs r h3]
end
theorem Rs_oneCell {L : Locs} {a : AV} {w : Value} (h : Rs L a w) : w.oneCell' = true := by
  cases a <;> simp only [Rs] at h <;> first
    | (obtain ⟨rfl, h⟩ := h; exact h)
    | (obtain ⟨b, rfl, _⟩ := h; rfl)
    | (obtain ⟨a, b, rfl, _⟩ := h; rfl)
    | (obtain ⟨a, b, _, rfl⟩ := h; rfl)
theorem Ff_oneCell : ∀ {xs : List Nat} {cs : List Value}, Ff xs cs → ∀ c ∈ cs, c.oneCell' = true
  | [], _, h => by simp [Ff] at h; simp [h]
  | _ :: _, _, ⟨_, _, h1, _, h3⟩ => by
    subst h1; intro c hc; simp at hc; rcases hc with rfl | hc
    · rfl
    · exact Ff_oneCell h3 c hc
theorem Fc_oneCell : ∀ {xs : List (Nat × Nat)} {cs : List Value}, Fc xs cs → ∀ c ∈ cs, c.oneCell' = true
  | [], _, h => by simp [Fc] at h; simp [h]
  | _ :: _, _, ⟨_, _, _, h1, _, _, h3⟩ => by
    subst h1; intro c hc; simp at hc; rcases hc with rfl | hc
    · rfl
    · exact Fc_oneCell h3 c hc
theorem cellsP_oneCell : ∀ (xs : List (Int × Int)), ∀ c ∈ cellsP xs, c.oneCell' = true
  | [], c, hc => by simp [cellsP] at hc
  | _ :: xs, c, hc => by
    simp [cellsP] at hc
    rcases hc with rfl | rfl | hc
    · rfl
    · rfl
    · exact cellsP_oneCell xs c hc
mutual
theorem Fl_oneCell {L : Locs} : ∀ (a : AV) (cs : List Value), Fl L a cs → ∀ c ∈ cs, c.oneCell' = true
  | .st fs, cs, h => by simp only [Fl] at h; exact FlL_oneCell fs cs h
  | .ai _ _, _, ⟨_, h2⟩ => by subst h2; intro c hc; simp at hc; obtain ⟨x, _, rfl⟩ := hc; rfl
  | .af _ _, _, ⟨_, h2⟩ => Ff_oneCell h2
  | .ac _ _, _, ⟨_, h2⟩ => Fc_oneCell h2
  | .ap _ xs, _, ⟨_, h2⟩ => by rw [h2]; exact cellsP_oneCell xs
  | .tup _, _, h => by simp [Fl] at h
  | .raw _, _, ⟨_, h1, h2⟩ => by subst h1; intro c hc; simp at hc; subst hc; exact Rs_oneCell h2
  | .flt _ _, _, ⟨_, h1, h2⟩ => by subst h1; intro c hc; simp at hc; subst hc; exact Rs_oneCell h2
  | .cpx _ _ _, _, ⟨_, h1, h2⟩ => by subst h1; intro c hc; simp at hc; subst hc; exact Rs_oneCell h2
  | .ptr _ _, _, ⟨_, h1, h2⟩ => by subst h1; intro c hc; simp at hc; subst hc; exact Rs_oneCell h2
  | .sl _ _ _ _ _ _, _, ⟨_, h1, h2⟩ => by subst h1; intro c hc; simp at hc; subst hc; exact Rs_oneCell h2
  | .fn _ _, _, ⟨_, h1, h2⟩ => by subst h1; intro c hc; simp at hc; subst hc; exact Rs_oneCell h2
  | .ifc _ _, _, ⟨_, h1, h2⟩ => by subst h1; intro c hc; simp at hc; subst hc; exact Rs_oneCell h2
theorem FlL_oneCell {L : Locs} : ∀ (a : List AV) (cs : List Value), FlL L a cs → ∀ c ∈ cs, c.oneCell' = true
  | [], _, h => by simp [FlL] at h; simp [h]
  | x :: xs, _, ⟨c, r, h1, h2, h3⟩ => by
    subst h1; intro d hd; simp at hd; rcases hd with hd | hd
    · exact Fl_oneCell x c h2 d hd
    · exact FlL_oneCell xs r h3 d hd
end
/-- a value that is no tuple, by its cells -/
theorem Rn_cells {L : Locs} {a : AV} {w : Value} (h : Rn L a w) : Fl L a w.cells.toList := by
  unfold Rn at h
  split at h
  · obtain ⟨cs, rfl, h2⟩ := h; simpa [Value.cells] using h2
  · rename_i ha
    have h1 := Rs_oneCell h
    have h2 : w.cells = #[w] := by cases w <;> first | rfl | (simp [Value.oneCell'] at h1)
    rw [h2]
    cases a <;> first | exact ⟨w, rfl, h⟩ | (simp [agA] at ha; done) | (simp [Rs] at h)
theorem Rn_of_scalar {L : Locs} {a : AV} {w : Value} (ha : agA a = false) (h : Rs L a w) : Rn L a w := by
  unfold Rn; rw [ha]; exact h
theorem Rn_agg {L : Locs} {a : AV} {cs : List Value} (ha : agA a = true) (h : Fl L a cs) : Rn L a (.agg cs.toArray) := by
  unfold Rn; rw [ha]; exact ⟨cs, rfl, h⟩
theorem Rn_one {L : Locs} {a : AV} {v : Value} (ha : agA a = false) (h : Fl L a [v]) : Rn L a v := by
  refine Rn_of_scalar ha ?_
  cases a <;> first | (obtain ⟨u, h1, h2⟩ := h; cases h1; exact h2) | (simp [agA] at ha; done) | (simp [Fl] at h)

/-! a part of a value -/
theorem szA_eq_of_Fl {L : Locs} {a b : AV} {cs ds : List Value} (ha : Fl L a cs) (hb : Fl L b ds) (h : szA a = szA b) : cs.length = ds.length := by
  rw [Fl_length _ _ ha, Fl_length _ _ hb, h]
theorem stCh_parts {L : Locs} : ∀ (fs : List AV) (i off : Nat) (c : AV) (cs : List Value), stCh fs i off = some c → FlL L fs cs →
    ∃ pre d post, cs = pre ++ d ++ post ∧ pre.length = off ∧ Fl L c d ∧ ∀ (c' : AV) (d' : List Value), Fl L c' d' → d'.length = d.length → FlL L (fs.set i c') (pre ++ d' ++ post)
  | [], _, _, _, _, h, _ => by simp [stCh] at h
  | x :: xs, 0, 0, c, cs, h, ⟨a, r, h1, h2, h3⟩ => by
    simp only [stCh, Option.some.injEq] at h
    subst h
    exact ⟨[], a, r, by simp [h1], rfl, h2, fun c' d' hc' hd' => ⟨d', r, by simp, hc', h3⟩⟩
  | x :: xs, 0, o + 1, c, cs, h, _ => by simp [stCh] at h
  | x :: xs, i + 1, off, c, cs, h, ⟨a, r, h1, h2, h3⟩ => by
    simp only [stCh] at h
    split at h
    · rename_i hle
      obtain ⟨pre, d, post, e1, e2, e3, e4⟩ := stCh_parts xs i (off - szA x) c r h h3
      refine ⟨a ++ pre, d, post, by simp [h1, e1], by simp [Fl_length _ _ h2, e2]; omega, e3, fun c' d' hc' hd' => ?_⟩
      exact ⟨a, pre ++ d' ++ post, by simp, h2, e4 c' d' hc' hd'⟩
    · cases h
theorem nth_getD {α : Type} (xs : List α) (i : Nat) (d : α) : nth xs i d = xs.getD i d := by unfold nth; rfl
theorem upd_set {α : Type} (xs : List α) (i : Nat) (v : α) : upd xs i v = xs.set i v := by unfold upd; rfl
theorem Ff_parts : ∀ (xs : List Nat) (cs : List Value) (i : Nat), Ff xs cs → i < xs.length →
    ∃ pre b post, cs = pre ++ [.float .f32 b] ++ post ∧ pre.length = i ∧ canon .f32 b = xs.getD i 0 ∧ ∀ b' , Ff (xs.set i (canon .f32 b')) (pre ++ [.float .f32 b'] ++ post)
  | [], _, _, _, hi => by simp at hi
  | x :: xs, _, 0, ⟨b, r, h1, h2, h3⟩, _ => ⟨[], b, r, by simp [h1], rfl, by simpa using h2, fun b' => ⟨b', r, by simp, rfl, h3⟩⟩
  | x :: xs, _, i + 1, ⟨b, r, h1, h2, h3⟩, hi => by
    obtain ⟨pre, b2, post, e1, e2, e3, e4⟩ := Ff_parts xs r i h3 (by simpa using hi)
    exact ⟨.float .f32 b :: pre, b2, post, by simp [h1, e1], by simp [e2], by simpa using e3, fun b' => ⟨b, pre ++ [.float .f32 b'] ++ post, by simp, h2, e4 b'⟩⟩
theorem Fc_parts : ∀ (xs : List (Nat × Nat)) (cs : List Value) (i : Nat), Fc xs cs → i < xs.length →
    ∃ pre a b post, cs = pre ++ [.complex .f32 a b] ++ post ∧ pre.length = i ∧ canon .f32 a = (xs.getD i (0, 0)).1 ∧ canon .f32 b = (xs.getD i (0, 0)).2 ∧ ∀ a' b', Fc (xs.set i (canon .f32 a', canon .f32 b')) (pre ++ [.complex .f32 a' b'] ++ post)
  | [], _, _, _, hi => by simp at hi
  | x :: xs, _, 0, ⟨a, b, r, h1, h2, h2', h3⟩, _ => ⟨[], a, b, r, by simp [h1], rfl, by simpa using h2, by simpa using h2', fun a' b' => ⟨a', b', r, by simp, rfl, rfl, h3⟩⟩
  | x :: xs, _, i + 1, ⟨a, b, r, h1, h2, h2', h3⟩, hi => by
    obtain ⟨pre, a2, b2, post, e1, e2, e3, e3', e4⟩ := Fc_parts xs r i h3 (by simpa using hi)
    exact ⟨.complex .f32 a b :: pre, a2, b2, post, by simp [h1, e1], by simp [e2], by simpa using e3, by simpa using e3', fun a' b' => ⟨a, b, pre ++ [.complex .f32 a' b'] ++ post, by simp, h2, h2', e4 a' b'⟩⟩
theorem cellsP_parts : ∀ (xs : List (Int × Int)) (i : Nat), i < xs.length →
    ∃ pre post, cellsP xs = pre ++ [.int .i64 (xs.getD i (0, 0)).1, .int .i64 (xs.getD i (0, 0)).2] ++ post ∧ pre.length = i * 2 ∧ ∀ x' , cellsP (xs.set i x') = pre ++ [.int .i64 x'.1, .int .i64 x'.2] ++ post
  | [], _, hi => by simp at hi
  | x :: xs, 0, _ => ⟨[], cellsP xs, by simp [cellsP], rfl, fun x' => by simp [cellsP]⟩
  | x :: xs, i + 1, hi => by
    obtain ⟨pre, post, e1, e2, e3⟩ := cellsP_parts xs i (by simpa using hi)
    exact ⟨.int .i64 x.1 :: .int .i64 x.2 :: pre, post, by simp [cellsP, e1], by simp [e2]; omega, fun x' => by simp [cellsP, e3 x']⟩
theorem map_parts (xs : List Int) (i : Nat) (hi : i < xs.length) :
    ∃ pre post, xs.map (Value.int .i64) = pre ++ [.int .i64 (xs.getD i 0)] ++ post ∧ pre.length = i ∧ ∀ x', (xs.set i x').map (Value.int .i64) = pre ++ [.int .i64 x'] ++ post := by
  refine ⟨(xs.take i).map (Value.int .i64), (xs.drop (i + 1)).map (Value.int .i64), ?_, by simp; omega, fun x' => ?_⟩
  · have : xs = xs.take i ++ [xs.getD i 0] ++ xs.drop (i + 1) := by
      simp [List.getD, List.getElem?_eq_getElem hi]
    conv => lhs; rw [this]
    simp
  · have : xs.set i x' = xs.take i ++ [x'] ++ xs.drop (i + 1) := by
      rw [List.set_eq_take_append_cons_drop, if_pos hi]; simp
    rw [this]; simp
theorem Rn_Fl_flt {L : Locs} {k : FloatKind} {x : Nat} {d : List Value} (h : Fl L (.flt k x) d) : ∃ b, d = [.float k b] ∧ canon k b = x := by
  obtain ⟨v, rfl, b, rfl, h⟩ := h; exact ⟨b, rfl, h⟩
theorem setCh_ai {n : Nat} {xs : List Int} {i z : Nat} {c : AV} {k : AV → Prop} (h : setCh (.ai n xs) (.idx i z) c k) :
    ∃ x, c = .raw (.int .i64 x) ∧ k (.ai n (upd xs i x)) := by
  unfold setCh at h
  split at h
  case h_2 =>
    rename_i he hs
    cases he; cases hs
    exact ⟨_, rfl, h⟩
  all_goals first | exact h.elim | (rename_i he _; cases he) | (rename_i he _ _; cases he) | (rename_i he; cases he)
theorem setCh_af {n : Nat} {xs : List Nat} {i z : Nat} {c : AV} {k : AV → Prop} (h : setCh (.af n xs) (.idx i z) c k) :
    ∃ x, c = .flt .f32 x ∧ k (.af n (upd xs i x)) := by
  unfold setCh at h
  split at h
  case h_3 =>
    rename_i he hs
    cases he; cases hs
    exact ⟨_, rfl, h⟩
  all_goals first | exact h.elim | (rename_i he _; cases he) | (rename_i he _ _; cases he) | (rename_i he; cases he)
theorem setCh_ac {n : Nat} {xs : List (Nat × Nat)} {i z : Nat} {c : AV} {k : AV → Prop} (h : setCh (.ac n xs) (.idx i z) c k) :
    ∃ x y, c = .cpx .f32 x y ∧ k (.ac n (upd xs i (x, y))) := by
  unfold setCh at h
  split at h
  case h_4 =>
    rename_i he hs
    cases he; cases hs
    exact ⟨_, _, rfl, h⟩
  all_goals first | exact h.elim | (rename_i he _; cases he) | (rename_i he _ _; cases he) | (rename_i he; cases he)
theorem setCh_ap {n : Nat} {xs : List (Int × Int)} {i z : Nat} {c : AV} {k : AV → Prop} (h : setCh (.ap n xs) (.idx i z) c k) :
    ∃ x y, c = .st [.raw (.int .i64 x), .raw (.int .i64 y)] ∧ k (.ap n (upd xs i (x, y))) := by
  unfold setCh at h
  split at h
  case h_5 =>
    rename_i he hs
    cases he; cases hs
    exact ⟨_, _, rfl, h⟩
  all_goals first | exact h.elim | (rename_i he _; cases he) | (rename_i he _ _; cases he) | (rename_i he; cases he)
theorem child_parts {L : Locs} {a : AV} {s : Step} {c : AV} {cs : List Value} (hc : child a s = some c) (hb : chB a s) (h : Fl L a cs) :
    ∃ pre d post, cs = pre ++ d ++ post ∧ pre.length = stepOff s ∧ Fl L c d ∧
      ∀ (c' : AV) (d' : List Value) (k : AV → Prop), setCh a s c' k → Fl L c' d' → d'.length = d.length → ∃ a', k a' ∧ Fl L a' (pre ++ d' ++ post) := by
  unfold child at hc
  split at hc
  · rename_i fs i off
    simp only [Fl] at h
    obtain ⟨pre, d, post, e1, e2, e3, e4⟩ := stCh_parts fs i off c cs hc h
    refine ⟨pre, d, post, e1, e2, e3, fun c' d' k hk hf hl => ?_⟩
    simp only [setCh, setK_eq] at hk
    exact ⟨_, hk, by simp only [Fl]; exact e4 c' d' hf hl⟩
  · rename_i n xs i
    cases hc
    obtain ⟨h1, h2⟩ := h
    simp only [chB] at hb
    obtain ⟨pre, post, e1, e2, e3⟩ := map_parts xs i (by omega)
    refine ⟨pre, _, post, by rw [h2, e1], by simp [stepOff, e2], ⟨_, rfl, by rw [nth_getD], rfl⟩, fun c' d' k hk hf hl => ?_⟩
    obtain ⟨x, rfl, hk⟩ := setCh_ai hk
    obtain ⟨v, rfl, rfl, _⟩ := hf
    refine ⟨_, hk, ?_, ?_⟩
    · rw [upd_set]; simpa using h1
    · rw [upd_set, e3]
  · rename_i n xs i
    cases hc
    obtain ⟨h1, h2⟩ := h
    simp only [chB] at hb
    obtain ⟨pre, b, post, e1, e2, e3, e4⟩ := Ff_parts xs cs i h2 (by omega)
    refine ⟨pre, _, post, e1, by simp [stepOff, e2], ⟨_, rfl, b, rfl, by rw [nth_getD]; exact e3⟩, fun c' d' k hk hf hl => ?_⟩
    obtain ⟨x, rfl, hk⟩ := setCh_af hk
    obtain ⟨b', rfl, rfl⟩ := Rn_Fl_flt hf
    refine ⟨_, hk, ?_, ?_⟩
    · rw [upd_set]; simpa using h1
    · rw [upd_set]; exact e4 b'
  · rename_i n xs i
    cases hc
    obtain ⟨h1, h2⟩ := h
    simp only [chB] at hb
    obtain ⟨pre, a, b, post, e1, e2, e3, e3', e4⟩ := Fc_parts xs cs i h2 (by omega)
    refine ⟨pre, _, post, e1, by simp [stepOff, e2], ⟨_, rfl, a, b, rfl, by rw [nth_getD]; exact e3, by rw [nth_getD]; exact e3'⟩, fun c' d' k hk hf hl => ?_⟩
    obtain ⟨x, y, rfl, hk⟩ := setCh_ac hk
    obtain ⟨v, rfl, a', b', rfl, rfl, rfl⟩ := hf
    refine ⟨_, hk, ?_, ?_⟩
    · rw [upd_set]; simpa using h1
    · rw [upd_set]; exact e4 a' b'
  · rename_i n xs i
    cases hc
    obtain ⟨h1, h2⟩ := h
    simp only [chB] at hb
    obtain ⟨pre, post, e1, e2, e3⟩ := cellsP_parts xs i (by omega)
    refine ⟨pre, _, post, by rw [h2, e1], by simp [stepOff, e2], ?_, fun c' d' k hk hf hl => ?_⟩
    · simp only [Fl, nth_getD]
      exact ⟨[_], [_], rfl, ⟨_, rfl, rfl, rfl⟩, [_], [], rfl, ⟨_, rfl, rfl, rfl⟩, rfl⟩
    · obtain ⟨x, y, rfl, hk⟩ := setCh_ap hk
      obtain ⟨a1, r1, rfl, ⟨v1, rfl, rfl, _⟩, a2, r2, rfl, ⟨v2, rfl, rfl, _⟩, rfl⟩ := hf
      refine ⟨_, hk, ?_, ?_⟩
      · rw [upd_set]; simpa using h1
      · rw [upd_set, e3]; simp
  · cases hc
end Go.Fw
