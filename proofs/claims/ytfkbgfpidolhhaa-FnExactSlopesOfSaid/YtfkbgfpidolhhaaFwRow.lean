import Derived.Test.YtfkbgfpidolhhaaFwGo
import Derived.ProofKit
import Derived.OpenShut
import Derived.Carry
import Derived.WalkKit
namespace Go.Fw
open Go Go.RowKit Go.ChangeShapes Go.WideShapes
/-- A world's arguments, that nothing may write. -/
theorem rep_args {w : World} {L : Locs} {m : MS} (hl : L.length = m.length) (ho : ∀ (i : Nat) (e : Ent), m[i]? = some e → e.own = false) (hok : ∀ (i : Nat) (e : Ent) (p : Nat × Nat), m[i]? = some e → L[i]? = some p → EntOk L w e p) : Rep w [] L m w :=
  ⟨Grow.refl _ _, hl, hok, fun i e p hi _ h => absurd ((ho i e hi).symm.trans h) (by simp), fun i j e f p q _ hi _ _ _ h => absurd ((ho i e hi).symm.trans h) (by simp)⟩
theorem rep_none (w : World) : Rep w [] [] [] w := rep_args rfl (fun i e h => by simp at h) (fun i e p h => by simp at h)
theorem law_calls {P : Program} {f : Nat} {args : List AV} {m : MS} {w : World} (h : CallLeaf P w f args m fun v _ => v = .raw (.bool true)) {L : Locs} {cargs : List Value} (hR : Rep w [] L m w) (hv : RvL L args cargs) :
    Calls P f cargs.toArray w fun e w' => e = .returned (.bool true) ∧ Below w.heap.size w w' := by
  have h := h.out
  refine (h [] L w cargs hR hv).mono ?_
  rintro e w' ⟨v, a, m', L', rfl, _, h2, h3, rfl⟩
  refine ⟨by rw [Rs_raw h2], h3.grow.os, h3.grow.tape, h3.grow.output, h3.grow.size, fun k hk => h3.grow.block k hk (by simp)⟩
theorem trodAll_below {H : Type} {enc : TypeId × Value → H} {P : Program} (hl : laidOutB P = true) {W W' : World} (hb : Below W.heap.size W W') : ∀ {ts : List TypeId} {vs : List Value} {ds : List (DataW H)} {ps : List MemPlace}, (∀ t ∈ ts, P.readableRec t = true ∧ t < P.types.size) →
    DataW.TrodAll enc P W 0 (fun _ => true) true ts vs ds ps → (∀ x ∈ ps, x.block < W.heap.size) → DataW.TrodAll enc P W' 0 (fun b => decide (b < W.heap.size)) true ts vs ds ps
  | [], _, _, _, _, h, _ => by obtain ⟨rfl, rfl, rfl⟩ := trodAll_nil h; exact trodAll_mk0
  | t :: ts, _, _, _, ht, h, hp => by
    obtain ⟨v, vs1, d, ds1, a, b, rfl, rfl, rfl, h1, h2⟩ := trodAll_cons h
    exact trodAll_cons_mk (Below.trod hl (ht t (by simp)).1 (ht t (by simp)).2 h1 hb (fun x hx => hp x (by simp [hx]))) (trodAll_below hl hb (fun t h => ht t (by simp [h])) h2 (fun x hx => hp x (by simp [hx])))
/-- What a law leaves that writes nothing of what came in. -/
theorem post_law {H : Type} {enc : TypeId × Value → H} {P : Program} {f : Func} {s : ChangeSpec} {W W' : World} {args : Array Value} {ds : List (DataW H)} {before : List MemPlace}
    (hl : laidOutB P = true) (hts : ∀ t ∈ f.params.toList, P.readableRec t = true ∧ t < P.types.size) (hW : DataW.Whole enc P f.params.toList s.vars false W args.toList ds [] before) (hv : s.vars = []) (hb : Below W.heap.size W W')
    {tb : TypeId} (hr : f.resultTypes = #[tb]) (ht : P.underlying tb = some .bool) (hres : (s.fn H ds).results = [.lit (.bool true)]) (hargs : (s.fn H ds).args = ds) (hvs : (s.fn H ds).vars = []) :
    s.post enc P f false true false false W args (.bool true) W' := by
  have hW0 := hW
  obtain ⟨p, q, hA, hV, rfl, _, _⟩ := hW
  have hlt : ∀ x ∈ p, x.block < W.heap.size := fun x hx => by simpa using hW0.lt x (by simp [hx])
  refine ⟨ds, [], _, [], p, [], hW0, ?_, ?_, ?_, hb.frame _, fun h => by cases h⟩
  · rw [List.append_nil, hres, hr]
    exact trodAll_cons_mk (shut_bool ht _) trodAll_mk0
  · rw [List.append_nil, hargs]
    exact trodAll_below hl hb hts hA hlt
  · rw [List.append_nil, hvs, hv]; rfl
end Go.Fw
