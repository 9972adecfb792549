/-
  'FnExactSameVector' returns true for every input, and each argument reads behind the call as it read before: the given row, out of the law's walk. No conditions.
-/
import Derived.Test.YtppodhfkmdojoaaRows
import Derived.Test.YtppodhfkmdojoaaSame
import Derived.WalkKit
import Derived.ProofKit
import Derived.OpenShut
import Derived.ShutString
import Derived.ChangeOld
import Derived.Below
import Derived.Laws.Cover2
import Derived.Lib.SmallJoins
import Derived.Test.YtppodhfkmdojoaaOpen
namespace Go.Proofs.Ytppodhfkmdojoaa.fnExactSameVector
open Go.ChangeShapes Go.WideShapes Go.ChangeAt Go.RowKit
open Go.ChangeMaps (open_string shut_string)
set_option linter.unusedVariables false

theorem own : ownKnob Try.prog.godebug = none := by kernel_rfl
theorem laidOut : laidOutB Try.prog = true := by kernel_rfl

theorem cells31 : Try.prog.cellsOf 31 = 3 := by kernel_rfl

set_option maxRecDepth 100000 in
theorem lifted (os : Os) (started : os.Started) (H : Type) (enc : TypeId × Value → H) :
    ReturnsInHanded {} Try.checked os 10 .any (Rows.fnExactSameVectorSpec.pre6 enc Try.prog Try.f10 Rows.fnExactSameVectorRow.domain false) (Rows.fnExactSameVectorSpec.post enc Try.prog Try.f10 false true false false) := by
  refine returnsInHanded_of_change (C := Try.checked) own started (by kernel_rfl) Try.func10
    (ChangeSpec.witness6 (enc := enc) (C := Try.checked) false ⟨#[], #[.agg #[.float .f32 0, .float .f32 0, .float .f32 0], .agg #[.float .f32 0, .float .f32 0, .float .f32 0]], []⟩ 8 (by kernel_rfl) (by kernel_rfl) (by kernel_rfl) (by kernel_rfl)) ?_
  intro W base args ds gs before hval0 hW hcnd _
  have hval : ∀ (j : Nat) t v, Try.f10.params[j]? = some t → args[j]? = some v → Value.okWide Try.prog W .any base t v := hval0
  have hW' := hW
  obtain ⟨p, q, hA0, hV, rfl, hfz, hnd⟩ := hW
  have hA : DataW.TrodAll enc Try.prog W 0 (fun _ => true) true Try.f10.params.toList args.toList ds p := hA0
  rw [Try.params10] at hA hval
  obtain ⟨v0, vs0, d0, ds0, p0, q0, hargs, rfl, rfl, h0, r0⟩ := trodAll_cons hA
  obtain ⟨v1, vs1, d1, ds1, p1, q1, rfl, rfl, rfl, h1, r1⟩ := trodAll_cons r0
  obtain ⟨rfl, rfl, rfl⟩ := trodAll_nil r1
  obtain rfl : args = #[v0, v1] := by cases args; simp_all
  obtain ⟨rfl, rfl⟩ := trodVars_none hV
  have k0 := h0
  have lt0 : ∀ x ∈ p0, x.block < W.heap.size := by obtain ⟨m, hm⟩ := k0; exact DataW.trod_lt m _ _ _ hm
  have k1 := h1
  have lt1 : ∀ x ∈ p1, x.block < W.heap.size := by obtain ⟨m, hm⟩ := k1; exact DataW.trod_lt m _ _ _ hm
  obtain ⟨c00, c01, c02, y00, y01, y02, m0, rfl, rfl, rfl, e00, e01, e02⟩ := Go.Joins.open_agg3 Try.underlying31 (by kernel_rfl) cells31 (hval 0 31 v0 rfl rfl) h0
  obtain ⟨a00, rfl, w00⟩ := Fl.open_cell Try.underlying22 e00
  have w00' := of_decide_eq_true w00
  obtain ⟨a01, rfl, w01⟩ := Fl.open_cell Try.underlying22 e01
  have w01' := of_decide_eq_true w01
  obtain ⟨a02, rfl, w02⟩ := Fl.open_cell Try.underlying22 e02
  have w02' := of_decide_eq_true w02
  obtain ⟨c10, c11, c12, y10, y11, y12, m1, rfl, rfl, rfl, e10, e11, e12⟩ := Go.Joins.open_agg3 Try.underlying31 (by kernel_rfl) cells31 (hval 1 31 v1 rfl rfl) h1
  obtain ⟨a10, rfl, w10⟩ := Fl.open_cell Try.underlying22 e10
  have w10' := of_decide_eq_true w10
  obtain ⟨a11, rfl, w11⟩ := Fl.open_cell Try.underlying22 e11
  have w11' := of_decide_eq_true w11
  obtain ⟨a12, rfl, w12⟩ := Fl.open_cell Try.underlying22 e12
  have w12' := of_decide_eq_true w12
  clear hA0 hval0
  refine (FnExactSameVector_walk a00 a01 a02 a10 a11 a12 W w00' w01' w02' w10' w11' w12').mono fun e W' ⟨he, bel⟩ => ?_
  subst he
  exact ⟨_, rfl, _, _, _, [], _, [], hW', trodAll_mk1 (shut_bool Try.underlying4 _), (trodAll_cons_mk (Below.trod laidOut (by kernel_rfl) (of_decide_eq_true (by kernel_rfl)) k0 bel lt0) (trodAll_cons_mk (Below.trod laidOut (by kernel_rfl) (of_decide_eq_true (by kernel_rfl)) k1 bel lt1) trodAll_mk0)), rfl, bel.frame _, fun h => by cases h⟩

theorem over : Rows.fnExactSameVectorRow.holds Try.pinned (OpenSpec.ofChange Rows.fnExactSameVectorSpec) :=
  OpenClaim.holds_of_wide 10 Try.f10 rfl rfl rfl rfl rfl rfl rfl ⟨rfl, rfl, rfl, rfl, rfl⟩ rfl rfl rfl rfl rfl (by kernel_rfl) Try.func10 (by kernel_rfl)
    (of_decide_eq_true (by kernel_rfl)) (by unfold Func.isWrapper; first | (rw [if_pos (by decide +kernel)]; kernel_rfl) | (rw [if_neg (by decide +kernel)]; exact ⟨rfl, rfl⟩))
    (fun os started H enc _ => lifted os started H enc)

/-- The given statement. -/
theorem proved : Rows.FnExactSameVectorSaid :=
  over
#print axioms proved
end Go.Proofs.Ytppodhfkmdojoaa.fnExactSameVector
