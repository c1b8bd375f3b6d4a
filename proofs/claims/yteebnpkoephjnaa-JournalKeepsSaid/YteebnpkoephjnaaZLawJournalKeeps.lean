/- The law JournalKeeps holds: for every input the call returns true, and the argument reads as before. -/
import Derived.Test.YteebnpkoephjnaaRows
import Derived.Test.YteebnpkoephjnaaZd
import Derived.WalkKit
import Derived.ProofKit
import Derived.OpenShut
import Derived.ShutString
import Derived.ChangeOld
import Derived.Below
import Derived.SizedLaws
set_option linter.unusedVariables false
namespace Go.Proofs.Yteebnpkoephjnaa.Rx.journalKeeps
open Go.ChangeShapes Go.WideShapes Go.ChangeAt Go.RowKit
open Go.Rx Go.Rx.Lift Go.Proofs.Yteebnpkoephjnaa.Rx
open Go.ChangeMaps (open_string shut_string)
theorem con (R : List Rec) (S : List ByteArray) (N : List Int) (F : FileS) (n : Int) (A : List FAct) (h : Ask13 R S F A) (hN : N.length ≤ 140737488351232) : Con P 3 [encAsk13 R S N F n A] (Bl true) [] := by first | exact journalKeeps_con R S N F n A h hN | exact journalKeeps_con R S N F n A h
theorem own : ownKnob Try.prog.godebug = none := by kernel_rfl
theorem laidOut : laidOutB Try.prog = true := by kernel_rfl
set_option maxRecDepth 100000 in
theorem lifted (os : Os) (started : os.Started) (H : Type) (enc : TypeId × Value → H) :
    ReturnsInHanded {} Try.checked os 3 .any (Rows.journalKeepsSpec.pre6 enc Try.prog Try.f3 Rows.journalKeepsRow.domain false) (Rows.journalKeepsSpec.post enc Try.prog Try.f3 false true false false) := by
  refine returnsInHanded_of_change_sized (C := Try.checked) own started (by kernel_rfl) Try.func3
    (ChangeSpec.witness6 (enc := enc) (C := Try.checked) false ⟨#[], #[.agg #[.slice none 0 0, .slice none 0 0, .slice none 0 0, .string ⟨#[]⟩, .string ⟨#[]⟩, .int .i64 0, .int .i64 0, .slice none 0 0]], []⟩ 8 (by kernel_rfl) (by kernel_rfl) (by kernel_rfl) (by kernel_rfl)) ?_
  intro W base args ds gs before hval0 hW hcnd hsz0 _
  have hsz : (DataW.weightsEach Try.prog (Try.f3.params.toList ++ Rows.journalKeepsSpec.plain.varTypes Try.prog) (ds ++ gs)).all (· ≤ reachBytes) = true := hsz0
  have hval : ∀ (j : Nat) t v, Try.f3.params[j]? = some t → args[j]? = some v → Value.okWide Try.prog W .any base t v := hval0
  have hW' := hW
  obtain ⟨p, q, hA0, hV, rfl, hfz, hnd⟩ := hW
  have hA : DataW.TrodAll enc Try.prog W 0 (fun _ => true) true Try.f3.params.toList args.toList ds p := hA0
  rw [Try.params3] at hA hval hsz
  obtain ⟨v0, vs0, d0, ds0, p0, q0, hargs, rfl, rfl, h0, r0⟩ := trodAll_cons hA
  obtain ⟨rfl, rfl, rfl⟩ := trodAll_nil r0
  obtain rfl : args = #[v0] := by cases args; simp_all
  obtain ⟨rfl, rfl⟩ := trodVars_none hV
  obtain ⟨cs0, rfl, hz0⟩ := okWide_struct Try.underlying35 (hval 0 35 v0 rfl rfl)
  have k0 := h0
  have lt0 : ∀ x ∈ p0, x.block < W.heap.size := by obtain ⟨m, hm⟩ := k0; exact DataW.trod_lt m _ _ _ hm
  obtain ⟨⟨⟨R, S, N⟩, F, n, A⟩, hK0, hok0⟩ := opened (P := Try.prog) opAsk13 hsz (j := 0) (t := 35) rfl rfl h0
  clear hA0 hval0 hsz0 hsz
  have hu : Fa (RepA (Gh.base (Was W)) [] W) [encAsk13 R S N F n A] [.agg cs0] := ⟨⟨cs0.toList, by simp, leaves_of hK0⟩, trivial⟩
  refine (Con.law (con R S N F n A hok0.1 hok0.2) rfl hu (v := .bool true) (fun G' w' u h => (sc_rep (G := G') (bk := []) (w := w') h).1)).mono fun e W' ⟨he, bel⟩ => ?_
  subst he
  exact ⟨_, rfl, _, _, _, [], _, [], hW', trodAll_mk1 (shut_bool Try.underlying4 _), (trodAll_cons_mk (Below.trod laidOut (by kernel_rfl) (of_decide_eq_true (by kernel_rfl)) k0 bel lt0) trodAll_mk0), rfl, bel.frame _, fun h => by cases h⟩
theorem over : Rows.journalKeepsRow.holds Try.pinned (OpenSpec.ofChange Rows.journalKeepsSpec) :=
  OpenClaim.holds_of_wide 3 Try.f3 rfl rfl rfl rfl rfl rfl rfl ⟨rfl, rfl, rfl, rfl, rfl⟩ rfl rfl rfl rfl rfl (by kernel_rfl) Try.func3 (by kernel_rfl)
    (of_decide_eq_true (by kernel_rfl)) (by unfold Func.isWrapper; first | (rw [if_pos (by decide +kernel)]; kernel_rfl) | (rw [if_neg (by decide +kernel)]; exact ⟨rfl, rfl⟩))
    (fun os started H enc _ => lifted os started H enc)
theorem proved : Rows.JournalKeepsSaid := over
#print axioms proved
end Go.Proofs.Yteebnpkoephjnaa.Rx.journalKeeps
namespace Go.Proofs.Yteebnpkoephjnaa
/-- The row, under a short name, for the claim. -/
theorem journalKeeps_holds : Rows.JournalKeepsSaid := Rx.journalKeeps.proved
end Go.Proofs.Yteebnpkoephjnaa
