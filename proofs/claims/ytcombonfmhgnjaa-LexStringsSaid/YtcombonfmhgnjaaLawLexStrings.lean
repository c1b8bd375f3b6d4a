/- The law LexStrings holds: for every input the call returns true, and the argument reads as before. -/
import Derived.Test.YtcombonfmhgnjaaRows
import Derived.Test.YtcombonfmhgnjaaPLexx11
import Derived.Test.YtcombonfmhgnjaaPureLexStrings
import Derived.WalkKit
import Derived.ProofKit
import Derived.OpenShut
import Derived.ShutString
import Derived.ChangeOld
import Derived.Below
import Derived.SizedLaws
set_option linter.unusedVariables false
namespace Go.Proofs.Ytcombonfmhgnjaa.lexStrings
open Go.ChangeShapes Go.WideShapes Go.ChangeAt Go.RowKit
open Go.Proofs.YtcombonfmhgnjaaW.PrintWords Go.Proofs.Ytcombonfmhgnjaa.Lift Go.Proofs.Ytcombonfmhgnjaa.PLex
open Go.ChangeMaps (open_string shut_string)
theorem own : ownKnob Try.prog.godebug = none := by kernel_rfl
theorem laidOut : laidOutB Try.prog = true := by kernel_rfl
set_option maxRecDepth 100000 in
theorem lifted (os : Os) (started : os.Started) (H : Type) (enc : TypeId × Value → H) :
    ReturnsInHanded {} Try.checked os 5 .any (Rows.lexStringsSpec.pre6 enc Try.prog Try.f5 Rows.lexStringsRow.domain false) (Rows.lexStringsSpec.post enc Try.prog Try.f5 false true false false) := by
  refine returnsInHanded_of_change_sized (C := Try.checked) own started (by kernel_rfl) Try.func5
    (ChangeSpec.witness6 (enc := enc) (C := Try.checked) false ⟨#[], #[.agg #[.slice none 0 0, .slice none 0 0]], []⟩ 8 (by kernel_rfl) (by kernel_rfl) (by kernel_rfl) (by kernel_rfl)) ?_
  intro W base args ds gs before hval0 hW hcnd hsz0 _
  have hsz : (DataW.weightsEach Try.prog (Try.f5.params.toList ++ Rows.lexStringsSpec.plain.varTypes Try.prog) (ds ++ gs)).all (· ≤ reachBytes) = true := hsz0
  have hval : ∀ (j : Nat) t v, Try.f5.params[j]? = some t → args[j]? = some v → Value.okWide Try.prog W .any base t v := hval0
  have hW' := hW
  obtain ⟨p, q, hA0, hV, rfl, hfz, hnd⟩ := hW
  have hA : DataW.TrodAll enc Try.prog W 0 (fun _ => true) true Try.f5.params.toList args.toList ds p := hA0
  rw [Try.params5] at hA hval hsz
  obtain ⟨v0, vs0, d0, ds0, p0, q0, hargs, rfl, rfl, h0, r0⟩ := trodAll_cons hA
  obtain ⟨rfl, rfl, rfl⟩ := trodAll_nil r0
  obtain rfl : args = #[v0] := by cases args; simp_all
  obtain ⟨rfl, rfl⟩ := trodVars_none hV
  obtain ⟨cs0, rfl, hz0⟩ := okWide_struct Try.underlying25 (hval 0 25 v0 rfl rfl)
  have k0 := h0
  have lt0 : ∀ x ∈ p0, x.block < W.heap.size := by obtain ⟨m, hm⟩ := k0; exact DataW.trod_lt m _ _ _ hm
  obtain ⟨⟨l0_0, l0_1⟩, hK0, hok0⟩ := opened (P := Try.prog) (opens_struct (total := 2) Try.underlying25 (by kernel_rfl) (from_cons rfl rfl (by kernel_rfl) (opens_slice (B := 16) Try.underlying22 (by kernel_rfl) (by kernel_rfl) (opens_string Try.underlying9)) (from_last rfl rfl (by kernel_rfl) rfl (opens_slice (B := 8) Try.underlying23 (by kernel_rfl) (by kernel_rfl) (opens_int Try.underlying3))))) hsz (j := 0) (t := 25) rfl rfl h0
  have hcs0 : ∃ l, cs0.toList = l ∧ _ := ⟨_, rfl, hK0⟩
  obtain ⟨_, hl00, ⟨_, _, hl0, ⟨A0_0, c0_0, rfl, hc0_0, hr0_0⟩, ⟨A0_1, c0_1, rfl, hc0_1, hr0_1⟩⟩⟩ := hcs0
  rw [hl0] at hl00
  obtain rfl : cs0 = #[.slice A0_0 l0_0.length c0_0, .slice A0_1 l0_1.length c0_1] := Array.toList_inj.1 (by simpa using hl00)
  clear hA0 hval0 hsz0 hsz
  obtain ⟨k, h⟩ := Pure.LexStrings l0_0 l0_1 hok0
  refine (PLex.amanuensislaw2_LexStrings.calls (r := true) (w := W) (hr0_0 := hr0_0) (hc0_0 := hc0_0) (hr0_1 := hr0_1) (hc0_1 := hc0_1) (h := h)).mono fun e W' ⟨he, hbel⟩ => ?_
  have bel : Below W.heap.size W W' := by first | exact hbel | exact hbel.below
  subst he
  exact ⟨_, rfl, _, _, _, [], _, [], hW', trodAll_mk1 (shut_bool Try.underlying4 _), (trodAll_cons_mk (Below.trod laidOut (by kernel_rfl) (of_decide_eq_true (by kernel_rfl)) k0 bel lt0) trodAll_mk0), rfl, bel.frame _, fun h => by cases h⟩
theorem over : Rows.lexStringsRow.holds Try.pinned (OpenSpec.ofChange Rows.lexStringsSpec) :=
  OpenClaim.holds_of_wide 5 Try.f5 rfl rfl rfl rfl rfl rfl rfl ⟨rfl, rfl, rfl, rfl, rfl⟩ rfl rfl rfl rfl rfl (by kernel_rfl) Try.func5 (by kernel_rfl)
    (of_decide_eq_true (by kernel_rfl)) (by unfold Func.isWrapper; first | (rw [if_pos (by decide +kernel)]; kernel_rfl) | (rw [if_neg (by decide +kernel)]; exact ⟨rfl, rfl⟩))
    (fun os started H enc _ => lifted os started H enc)
theorem proved : Rows.LexStringsSaid := over
#print axioms proved
end Go.Proofs.Ytcombonfmhgnjaa.lexStrings
namespace Go.Proofs.Ytcombonfmhgnjaa
/-- The row, under a short name, for the claim. -/
theorem lexStrings_holds : Rows.LexStringsSaid := lexStrings.proved
end Go.Proofs.Ytcombonfmhgnjaa
