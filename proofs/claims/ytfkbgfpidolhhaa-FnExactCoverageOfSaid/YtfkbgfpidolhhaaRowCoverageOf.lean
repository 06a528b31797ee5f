/- The law FnExactCoverageOf holds: whatever the input, it answers true and leaves its arguments alone. No condition. -/
import Derived.Test.YtfkbgfpidolhhaaCov3
import Derived.Test.YtfkbgfpidolhhaaFwArgS
import Derived.Test.YtfkbgfpidolhhaaRows
namespace Go.Proofs.Ytfkbgfpidolhhaa.fnExactCoverageOf
open Go.ChangeShapes Go.WideShapes Go.ChangeAt Go.RowKit Go.Fw
theorem own : ownKnob Try.prog.godebug = none := by kernel_rfl
theorem laid : laidOutB Try.prog = true := by kernel_rfl
set_option maxRecDepth 100000 in
theorem lifted (os : Os) (started : os.Started) (H : Type) (enc : TypeId × Value → H) :
    ReturnsInHanded {} Try.checked os 10 .any (Rows.fnExactCoverageOfSpec.pre6 enc Try.prog Try.f10 Rows.fnExactCoverageOfRow.domain false) (Rows.fnExactCoverageOfSpec.post enc Try.prog Try.f10 false true false false) := by
  refine returnsInHanded_of_change (C := Try.checked) own started (by kernel_rfl) Try.func10
    (ChangeSpec.witness6 (enc := enc) (C := Try.checked) false ⟨#[], #[.int .i64 0, .int .i64 0, .slice none 0 0], []⟩ 8 (by kernel_rfl) (by kernel_rfl) (by kernel_rfl) (by kernel_rfl)) ?_
  intro W base args ds gs before hval0 hW hcnd _
  have hval : ∀ (j : Nat) t v, Try.f10.params[j]? = some t → args[j]? = some v → Value.okWide Try.prog W .any base t v := hval0
  have hW' := hW
  obtain ⟨p, q, hA0, hV, rfl, hfz, hnd⟩ := hW
  have hA : DataW.TrodAll enc Try.prog W 0 (fun _ => true) true Try.f10.params.toList args.toList ds p := hA0
  rw [Try.params10] at hA hval
  obtain ⟨v0, vs0, d0, ds0, p0, q0, hargs, rfl, rfl, h0, r0⟩ := trodAll_cons hA
  obtain ⟨v1, vs1, d1, ds1, p1, q1, rfl, rfl, rfl, h1, r1⟩ := trodAll_cons r0
  obtain ⟨v2, vs2, d2, ds2, p2, q2, rfl, rfl, rfl, h2, r2⟩ := trodAll_cons r1
  obtain ⟨rfl, rfl, rfl⟩ := trodAll_nil r2
  obtain rfl : args = #[v0, v1, v2] := by cases args; simp_all
  obtain ⟨rfl, rfl⟩ := trodVars_none hV
  obtain ⟨a0, rfl, rfl, rfl, w0⟩ := open_int Try.underlying2 (hval 0 2 v0 rfl rfl) h0
  obtain ⟨a1, rfl, rfl, rfl, w1⟩ := open_int Try.underlying2 (hval 1 2 v1 rfl rfl) h1
  obtain ⟨n2, c2, x2, k2, hx2, rv2, ok2, wf2, hm2, hc2⟩ := arg_pairs Try.underlying38 Try.underlying54 (by kernel_rfl) Try.underlying2 Try.underlying2 rfl rfl (by kernel_rfl) (by kernel_rfl) (hval 2 38 v2 rfl rfl) h2
  clear hA0 hval0
  simp only [List.append_nil] at hW'
  have hrep : Rep W [] [k2] [⟨false, .ap n2 x2, 0⟩] W := by
    refine rep_args rfl (fun i e hi => ?_) (fun i e p hi hp => ?_)
    · exact match i, hi with
      | 0, h => by cases h; rfl
      | j + 1, h => by simp at h
    · exact match i, hi, hp with
      | 0, h, g => by cases h; cases g; exact ok2 _
      | j + 1, h, _ => by simp at h
  refine (law_calls (args := [AV.int a0, AV.int a1, .sl 0 [] 2 0 n2 c2]) (law_CoverageOf hx2 (Nat.le_trans hc2 hm2) (fun _ => rfl)) hrep (⟨_, _, rfl, ⟨rfl, rfl⟩, ⟨_, _, rfl, ⟨rfl, rfl⟩, ⟨_, _, rfl, rv2 _ 0 rfl, rfl⟩⟩⟩)).mono fun e W' ⟨he, hg⟩ => ?_
  subst he
  exact ⟨_, rfl, post_law laid (by rw [Try.params10]; decide +kernel) hW' rfl hg (by kernel_rfl) Try.underlying4 rfl rfl rfl⟩
theorem over : Rows.fnExactCoverageOfRow.holds Try.pinned (OpenSpec.ofChange Rows.fnExactCoverageOfSpec) :=
  OpenClaim.holds_of_wide 10 Try.f10 rfl rfl rfl rfl rfl rfl rfl ⟨rfl, rfl, rfl, rfl, rfl⟩ rfl rfl rfl rfl rfl (by kernel_rfl) Try.func10 (by kernel_rfl)
    (of_decide_eq_true (by kernel_rfl)) (by unfold Func.isWrapper; first | (rw [if_pos (by decide +kernel)]; kernel_rfl) | (rw [if_neg (by decide +kernel)]; exact ⟨rfl, rfl⟩))
    (fun os started H enc _ => lifted os started H enc)
/-- The statement. -/
theorem proved : Rows.FnExactCoverageOfSaid :=
  over
#print axioms proved
end Go.Proofs.Ytfkbgfpidolhhaa.fnExactCoverageOf
