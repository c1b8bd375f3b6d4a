/- The law SagaApplies holds: for every input the call returns true, and the argument reads as before. -/
import Derived.Test.YtbfjcbhpbldlcaaRows
import Derived.Test.YtbfjcbhpbldlcaaRxO
import Derived.Test.YtbfjcbhpbldlcaaRxM31
import Derived.WalkKit
import Derived.ProofKit
import Derived.OpenShut
import Derived.ShutString
import Derived.ChangeOld
import Derived.Below
import Derived.SizedLaws
set_option linter.unusedVariables false
namespace Go.Proofs.Ytbfjcbhpbldlcaa.Rx.sagaApplies
open Go.ChangeShapes Go.WideShapes Go.ChangeAt Go.RowKit
open Go.Rx Go.Rx.Lift Go.Proofs.Ytbfjcbhpbldlcaa.Rx
open Go.ChangeMaps (open_string shut_string)
theorem con (R : List Rec) (S : List ByteArray) (N : List Int) (G : List Saga) (h : AskOk R S N G) : Con P 11 [encAsk R S N G] (Bl true) [] := sagaApplies_con R S N G h
theorem own : ownKnob Try.prog.godebug = none := by kernel_rfl
theorem laidOut : laidOutB Try.prog = true := by kernel_rfl
set_option maxRecDepth 100000 in
theorem lifted (os : Os) (started : os.Started) (H : Type) (enc : TypeId × Value → H) :
    ReturnsInHanded {} Try.checked os 11 .any (Rows.sagaAppliesSpec.pre6 enc Try.prog Try.f11 Rows.sagaAppliesRow.domain false) (Rows.sagaAppliesSpec.post enc Try.prog Try.f11 false true false false) := by
  refine returnsInHanded_of_change_sized (C := Try.checked) own started (by kernel_rfl) Try.func11
    (ChangeSpec.witness6 (enc := enc) (C := Try.checked) false ⟨#[], #[.agg #[.slice none 0 0, .slice none 0 0, .slice none 0 0, .slice none 0 0]], []⟩ 8 (by kernel_rfl) (by kernel_rfl) (by kernel_rfl) (by kernel_rfl)) ?_
  intro W base args ds gs before hval0 hW hcnd hsz0 _
  have hsz : (DataW.weightsEach Try.prog (Try.f11.params.toList ++ Rows.sagaAppliesSpec.plain.varTypes Try.prog) (ds ++ gs)).all (· ≤ reachBytes) = true := hsz0
  have hval : ∀ (j : Nat) t v, Try.f11.params[j]? = some t → args[j]? = some v → Value.okWide Try.prog W .any base t v := hval0
  have hW' := hW
  obtain ⟨p, q, hA0, hV, rfl, hfz, hnd⟩ := hW
  have hA : DataW.TrodAll enc Try.prog W 0 (fun _ => true) true Try.f11.params.toList args.toList ds p := hA0
  rw [Try.params11] at hA hval hsz
  obtain ⟨v0, vs0, d0, ds0, p0, q0, hargs, rfl, rfl, h0, r0⟩ := trodAll_cons hA
  obtain ⟨rfl, rfl, rfl⟩ := trodAll_nil r0
  obtain rfl : args = #[v0] := by cases args; simp_all
  obtain ⟨rfl, rfl⟩ := trodVars_none hV
  obtain ⟨cs0, rfl, hz0⟩ := okWide_struct Try.underlying31 (hval 0 31 v0 rfl rfl)
  have k0 := h0
  have lt0 : ∀ x ∈ p0, x.block < W.heap.size := by obtain ⟨m, hm⟩ := k0; exact DataW.trod_lt m _ _ _ hm
  obtain ⟨⟨R, S, N, G⟩, hK0, hok0⟩ := opened (P := Try.prog) opAsk hsz (j := 0) (t := 31) rfl rfl h0
  clear hA0 hval0 hsz0 hsz
  have hu : Fa (RepA (Gh.base (Was W)) [] W) [encAsk R S N G] [.agg cs0] := ⟨⟨cs0.toList, by simp, leaves_of hK0⟩, trivial⟩
  refine (Con.law (con R S N G hok0) rfl hu (v := .bool true) (fun G' w' u h => (sc_rep (G := G') (bk := []) (w := w') h).1)).mono fun e W' ⟨he, bel⟩ => ?_
  subst he
  exact ⟨_, rfl, _, _, _, [], _, [], hW', trodAll_mk1 (shut_bool Try.underlying4 _), (trodAll_cons_mk (Below.trod laidOut (by kernel_rfl) (of_decide_eq_true (by kernel_rfl)) k0 bel lt0) trodAll_mk0), rfl, bel.frame _, fun h => by cases h⟩
theorem over : Rows.sagaAppliesRow.holds Try.pinned (OpenSpec.ofChange Rows.sagaAppliesSpec) :=
  OpenClaim.holds_of_wide 11 Try.f11 rfl rfl rfl rfl rfl rfl rfl ⟨rfl, rfl, rfl, rfl, rfl⟩ rfl rfl rfl rfl rfl (by kernel_rfl) Try.func11 (by kernel_rfl)
    (of_decide_eq_true (by kernel_rfl)) (by unfold Func.isWrapper; first | (rw [if_pos (by decide +kernel)]; kernel_rfl) | (rw [if_neg (by decide +kernel)]; exact ⟨rfl, rfl⟩))
    (fun os started H enc _ => lifted os started H enc)
theorem proved : Rows.SagaAppliesSaid := over
#print axioms proved
end Go.Proofs.Ytbfjcbhpbldlcaa.Rx.sagaApplies
namespace Go.Proofs.Ytbfjcbhpbldlcaa
/-- The row, under a short name, for the claim. -/
theorem sagaApplies_holds : Rows.SagaAppliesSaid := Rx.sagaApplies.proved
end Go.Proofs.Ytbfjcbhpbldlcaa
