/- The law ReplayOf holds: for every input the call returns true, and the argument reads as before. -/
import Derived.Test.YtnhheglbcphklaaGreatRows
import Derived.Test.YtnhheglbcphklaaGreatZd
import Derived.Test.YtnhheglbcphklaaGreatZe
import Derived.WalkKit
import Derived.ProofKit
import Derived.OpenShut
import Derived.ShutString
import Derived.ChangeOld
import Derived.Below
import Derived.SizedLaws
set_option linter.unusedVariables false
namespace Go.Proofs.YtnhheglbcphklaaGreat.Rx.replayOf
open Go.ChangeShapes Go.WideShapes Go.ChangeAt Go.RowKit
open Go.Rx Go.Rx.Lift Go.Proofs.YtnhheglbcphklaaGreat.Rx
open Go.ChangeMaps (open_string shut_string)
theorem con (R : List Rec) (S : List ByteArray) (N : List Int) (G : List Saga) (L : List (List Rec)) (h : AskOk R S N G) (hL : RowsOk L) : Con P 3 [encAsk15 R S N G L] (Bl true) [] := replayOf_con R S N G L h hL
theorem own : ownKnob Tryz.prog.godebug = none := by kernel_rfl
theorem laidOut : laidOutB Tryz.prog = true := by kernel_rfl
set_option maxRecDepth 100000 in
theorem lifted (os : Os) (started : os.Started) (H : Type) (enc : TypeId × Value → H) :
    ReturnsInHanded {} Tryz.checked os 3 .any (Rows.replayOfSpec.pre6 enc Tryz.prog Tryz.f3 Rows.replayOfRow.domain false) (Rows.replayOfSpec.post enc Tryz.prog Tryz.f3 false true false false) := by
  refine returnsInHanded_of_change_sized (C := Tryz.checked) own started (by kernel_rfl) Tryz.func3
    (ChangeSpec.witness6 (enc := enc) (C := Tryz.checked) false ⟨#[], #[.agg #[.slice none 0 0, .slice none 0 0, .slice none 0 0, .slice none 0 0, .slice none 0 0]], []⟩ 8 (by kernel_rfl) (by kernel_rfl) (by kernel_rfl) (by kernel_rfl)) ?_
  intro W base args ds gs before hval0 hW hcnd hsz0 _
  have hsz : (DataW.weightsEach Tryz.prog (Tryz.f3.params.toList ++ Rows.replayOfSpec.plain.varTypes Tryz.prog) (ds ++ gs)).all (· ≤ reachBytes) = true := hsz0
  have hval : ∀ (j : Nat) t v, Tryz.f3.params[j]? = some t → args[j]? = some v → Value.okWide Tryz.prog W .any base t v := hval0
  have hW' := hW
  obtain ⟨p, q, hA0, hV, rfl, hfz, hnd⟩ := hW
  have hA : DataW.TrodAll enc Tryz.prog W 0 (fun _ => true) true Tryz.f3.params.toList args.toList ds p := hA0
  rw [Tryz.params3] at hA hval hsz
  obtain ⟨v0, vs0, d0, ds0, p0, q0, hargs, rfl, rfl, h0, r0⟩ := trodAll_cons hA
  obtain ⟨rfl, rfl, rfl⟩ := trodAll_nil r0
  obtain rfl : args = #[v0] := by cases args; simp_all
  obtain ⟨rfl, rfl⟩ := trodVars_none hV
  obtain ⟨cs0, rfl, hz0⟩ := okWide_struct Tryz.underlying34 (hval 0 34 v0 rfl rfl)
  have k0 := h0
  have lt0 : ∀ x ∈ p0, x.block < W.heap.size := by obtain ⟨m, hm⟩ := k0; exact DataW.trod_lt m _ _ _ hm
  obtain ⟨⟨R, S, N, G, L⟩, hK0, hok0⟩ := opened (P := Tryz.prog) opAsk15 hsz (j := 0) (t := 34) rfl rfl h0
  clear hA0 hval0 hsz0 hsz
  have hu : Fa (RepA (Gh.base (Was W)) [] W) [encAsk15 R S N G L] [.agg cs0] := ⟨⟨cs0.toList, by simp, leaves_of hK0⟩, trivial⟩
  refine (Con.law (con R S N G L hok0.1 hok0.2) rfl hu (v := .bool true) (fun G' w' u h => (sc_rep (G := G') (bk := []) (w := w') h).1)).mono fun e W' ⟨he, bel⟩ => ?_
  subst he
  exact ⟨_, rfl, _, _, _, [], _, [], hW', trodAll_mk1 (shut_bool Tryz.underlying4 _), (trodAll_cons_mk (Below.trod laidOut (by kernel_rfl) (of_decide_eq_true (by kernel_rfl)) k0 bel lt0) trodAll_mk0), rfl, bel.frame _, fun h => by cases h⟩
theorem over : Rows.replayOfRow.holds Tryz.pinned (OpenSpec.ofChange Rows.replayOfSpec) :=
  OpenClaim.holds_of_wide 3 Tryz.f3 rfl rfl rfl rfl rfl rfl rfl ⟨rfl, rfl, rfl, rfl, rfl⟩ rfl rfl rfl rfl rfl (by kernel_rfl) Tryz.func3 (by kernel_rfl)
    (of_decide_eq_true (by kernel_rfl)) (by unfold Func.isWrapper; first | (rw [if_pos (by decide +kernel)]; kernel_rfl) | (rw [if_neg (by decide +kernel)]; exact ⟨rfl, rfl⟩))
    (fun os started H enc _ => lifted os started H enc)
theorem proved : Rows.ReplayOfSaid := over
#print axioms proved
end Go.Proofs.YtnhheglbcphklaaGreat.Rx.replayOf
namespace Go.Proofs.YtnhheglbcphklaaGreat
/-- The row, under a short name, for the claim. -/
theorem replayOf_holds : Rows.ReplayOfSaid := Rx.replayOf.proved
end Go.Proofs.YtnhheglbcphklaaGreat
