/- The law FnExactNegativeOf holds: whatever the input, it answers true and leaves its arguments alone. No condition. -/
import Derived.Test.YtfoflddjcijaeaaPic8
import Derived.Test.YtfoflddjcijaeaaRows
namespace Go.Proofs.Ytfoflddjcijaeaa.fnExactNegativeOf
open Go.ChangeShapes Go.WideShapes Go.ChangeAt Go.RowKit Go.Fw
theorem own : ownKnob Try.prog.godebug = none := by kernel_rfl
theorem laid : laidOutB Try.prog = true := by kernel_rfl
set_option maxRecDepth 100000 in
theorem lifted (os : Os) (started : os.Started) (H : Type) (enc : TypeId × Value → H) :
    ReturnsInHanded {} Try.checked os 9 .any (Rows.fnExactNegativeOfSpec.pre6 enc Try.prog Try.f9 Rows.fnExactNegativeOfRow.domain false) (Rows.fnExactNegativeOfSpec.post enc Try.prog Try.f9 false true false false) := by
  refine returnsInHanded_of_change (C := Try.checked) own started (by kernel_rfl) Try.func9
    (ChangeSpec.witness6 (enc := enc) (C := Try.checked) false ⟨#[], #[.agg (#[.int .i64 0] ++ Array.replicate 64 (.float .f32 0)), .float .f32 0], []⟩ 8 (by kernel_rfl) (by kernel_rfl) (by kernel_rfl) (by kernel_rfl)) ?_
  intro W base args ds gs before hval0 hW hcnd _
  have hval : ∀ (j : Nat) t v, Try.f9.params[j]? = some t → args[j]? = some v → Value.okWide Try.prog W .any base t v := hval0
  have hW' := hW
  obtain ⟨p, q, hA0, hV, rfl, hfz, hnd⟩ := hW
  have hA : DataW.TrodAll enc Try.prog W 0 (fun _ => true) true Try.f9.params.toList args.toList ds p := hA0
  rw [Try.params9] at hA hval
  obtain ⟨v0, vs0, d0, ds0, p0, q0, hargs, rfl, rfl, h0, r0⟩ := trodAll_cons hA
  obtain ⟨v1, vs1, d1, ds1, p1, q1, rfl, rfl, rfl, h1, r1⟩ := trodAll_cons r0
  obtain ⟨rfl, rfl, rfl⟩ := trodAll_nil r1
  obtain rfl : args = #[v0, v1] := by cases args; simp_all
  obtain ⟨rfl, rfl⟩ := trodVars_none hV
  obtain ⟨s0, x0, hx0, wf0, rv0⟩ := arg_pic Try.underlying25 (by kernel_rfl) (tI := 2) (tF := 22) (by kernel_rfl) Try.underlying2 Try.underlying22 (hval 0 25 v0 rfl rfl)
  obtain ⟨x1, wf1, rv1⟩ := arg_f32 Try.underlying22 (hval 1 22 v1 rfl rfl)
  clear hA0 hval0
  simp only [List.append_nil] at hW'
  refine (law_calls (args := [.st [AV.int s0, .af 64 x0], .flt .f32 x1]) (law_NegativeOf hx0 wf0 wf1 (fun _ => rfl)) (rep_none W) (⟨_, _, rfl, rv0 _, ⟨_, _, rfl, rv1 _, rfl⟩⟩)).mono fun e W' ⟨he, hg⟩ => ?_
  subst he
  exact ⟨_, rfl, post_law laid (by rw [Try.params9]; decide +kernel) hW' rfl hg (by kernel_rfl) Try.underlying4 rfl rfl rfl⟩
theorem over : Rows.fnExactNegativeOfRow.holds Try.pinned (OpenSpec.ofChange Rows.fnExactNegativeOfSpec) :=
  OpenClaim.holds_of_wide 9 Try.f9 rfl rfl rfl rfl rfl rfl rfl ⟨rfl, rfl, rfl, rfl, rfl⟩ rfl rfl rfl rfl rfl (by kernel_rfl) Try.func9 (by kernel_rfl)
    (of_decide_eq_true (by kernel_rfl)) (by unfold Func.isWrapper; first | (rw [if_pos (by decide +kernel)]; kernel_rfl) | (rw [if_neg (by decide +kernel)]; exact ⟨rfl, rfl⟩))
    (fun os started H enc _ => lifted os started H enc)
/-- The statement. -/
theorem proved : Rows.FnExactNegativeOfSaid :=
  over
#print axioms proved
end Go.Proofs.Ytfoflddjcijaeaa.fnExactNegativeOf
