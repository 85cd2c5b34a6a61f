/- FnExactReplicaMissing: the call returns true, whatever it is handed. -/
import Derived.Test.YtfbjnipamfbgmaaRows
import Derived.Test.YtfbjnipamfbgmaaR2Misslaw
import Derived.WalkKit
import Derived.ProofKit
import Derived.OpenShut
import Derived.ShutString
import Derived.ChangeOld
import Derived.Below
import Derived.SizedLaws
set_option linter.unusedSimpArgs false
set_option linter.unusedVariables false
namespace Go.Proofs.Ytfbjnipamfbgmaa.fnExactReplicaMissing
open Go.ChangeShapes Go.WideShapes Go.ChangeAt Go.RowKit Go.Ab Go.Proofs
theorem own : ownKnob Try.prog.godebug = none := by kernel_rfl
theorem laidOut : laidOutB Try.prog = true := by kernel_rfl
set_option maxRecDepth 100000 in
theorem lifted (os : Os) (started : os.Started) (H : Type) (enc : TypeId × Value → H) :
    ReturnsInHanded {} Try.checked os 12 .any (Rows.fnExactReplicaMissingSpec.pre6 enc Try.prog Try.f12 Rows.fnExactReplicaMissingRow.domain false) (Rows.fnExactReplicaMissingSpec.post enc Try.prog Try.f12 false true false false) := by
  refine returnsInHanded_of_change_sized (C := Try.checked) own started (by kernel_rfl) Try.func12
    (ChangeSpec.witness6 (enc := enc) (C := Try.checked) false ⟨#[], #[.agg #[.int .i64 0, .slice none 0 0, .slice none 0 0], .slice none 0 0], []⟩ 8 (by kernel_rfl) (by kernel_rfl) (by kernel_rfl) (by kernel_rfl)) ?_
  intro W base args ds gs before hval0 hW hcnd hsz0 _
  have hsz : (DataW.weightsEach Try.prog (Try.f12.params.toList ++ Rows.fnExactReplicaMissingSpec.plain.varTypes Try.prog) (ds ++ gs)).all (· ≤ reachBytes) = true := hsz0
  have hval : ∀ (j : Nat) t v, Try.f12.params[j]? = some t → args[j]? = some v → Value.okWide Try.prog W .any base t v := hval0
  have hW' := hW
  obtain ⟨p, q, hA0, hV, rfl, hfz, hnd⟩ := hW
  have hA : DataW.TrodAll enc Try.prog W 0 (fun _ => true) true Try.f12.params.toList args.toList ds p := hA0
  rw [Try.params12] at hA hval hsz
  obtain ⟨v0, vs0, d0, ds0, p0, q0, hargs, rfl, rfl, h0, r0⟩ := trodAll_cons hA
  obtain ⟨v1, vs1, d1, ds1, p1, q1, rfl, rfl, rfl, h1, r1⟩ := trodAll_cons r0
  obtain ⟨rfl, rfl, rfl⟩ := trodAll_nil r1
  obtain rfl : args = #[v0, v1] := by cases args; simp_all
  obtain ⟨rfl, rfl⟩ := trodVars_none hV
  have s0 : shOf Try.prog 8 42 = some ([.i .i64, .sl 104 [.i .i64, .i .i64, .i .i64, .i .i64, .i .i64, .i .i64, .i .i64, .i .i64, .i .i64, .i .i64, .b, .s], .sl 112 [.i .i64, .i .i64, .i .i64, .i .i64, .i .i64, .i .i64, .i .i64, .i .i64, .i .i64, .i .i64, .b, .s, .i .i64]]) := by kernel_rfl
  obtain ⟨x0, y0, z0⟩ := open_arg (agg := true) s0 (by kernel_rfl) (hval 0 42 v0 rfl rfl) h0 (light_of hsz (j := 0) rfl rfl)
  obtain ⟨r0, rfl, ok0⟩ := dec_Rep y0
  have s1 : shOf Try.prog 8 82 = some ([.sl 8 [.i .i64]]) := by kernel_rfl
  obtain ⟨x1, y1, z1⟩ := open_arg (agg := false) s1 (by kernel_rfl) (hval 1 82 v1 rfl rfl) h1 (light_of hsz (j := 1) rfl rfl)
  obtain ⟨w1, rfl, lenv1⟩ := dec_Ints y1
  clear hA0 hval0 hsz0 hsz
  refine (calls_true (FnExactReplicaMissing_ok false false false r0 w1 ⟨fun o ho => Nat.lt_of_le_of_lt (ok0.1 o ho) (by decide), fun m hm => Nat.lt_of_le_of_lt (ok0.2.2.1 m hm) (by decide), Nat.le_trans ok0.2.1 (by decide), Nat.le_trans ok0.2.2.2 (by decide)⟩ (Nat.le_trans lenv1 (by decide))) (.cons z0 (.cons z1 .nil))).mono fun e W' ⟨he, bel⟩ => ?_
  subst he
  exact ⟨_, rfl, _, _, _, [], _, [], hW', trodAll_mk1 (shut_bool Try.underlying4 _), (trodAll_cons_mk (Below.trod laidOut (by kernel_rfl) (of_decide_eq_true (by kernel_rfl)) h0 bel (trod_blocks h0)) (trodAll_cons_mk (Below.trod laidOut (by kernel_rfl) (of_decide_eq_true (by kernel_rfl)) h1 bel (trod_blocks h1)) trodAll_mk0)), rfl, bel.frame _, fun h => by cases h⟩
theorem over : Rows.fnExactReplicaMissingRow.holds Try.pinned (OpenSpec.ofChange Rows.fnExactReplicaMissingSpec) :=
  OpenClaim.holds_of_wide 12 Try.f12 rfl rfl rfl rfl rfl rfl rfl ⟨rfl, rfl, rfl, rfl, rfl⟩ rfl rfl rfl rfl rfl (by kernel_rfl) Try.func12 (by kernel_rfl)
    (of_decide_eq_true (by kernel_rfl)) (by unfold Func.isWrapper; first | (rw [if_pos (by decide +kernel)]; kernel_rfl) | (rw [if_neg (by decide +kernel)]; exact ⟨rfl, rfl⟩))
    (fun os started H enc _ => lifted os started H enc)
theorem proved : Rows.FnExactReplicaMissingSaid := over
end Go.Proofs.Ytfbjnipamfbgmaa.fnExactReplicaMissing
namespace Go.Proofs.Ytfbjnipamfbgmaa
theorem fnExactReplicaMissing_holds : Rows.FnExactReplicaMissingSaid := fnExactReplicaMissing.proved
end Go.Proofs.Ytfbjnipamfbgmaa
