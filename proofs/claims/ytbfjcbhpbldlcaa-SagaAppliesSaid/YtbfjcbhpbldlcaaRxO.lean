/- The arguments of the sagas' laws, opened. -/
import Derived.Test.YtbfjcbhpbldlcaaRxL
import Derived.Test.YtbfjcbhpbldlcaaRxM20
namespace Go.Proofs.Ytbfjcbhpbldlcaa.Rx
open Go.Rx Go.Rx.Lift Go.Proofs

theorem opStr : Opens P 9 (fun s : ByteArray => [pS s]) (fun s => s.size ≤ 140737488351232) := opens_string Try.underlying9
theorem opInt : Opens P 3 (fun n : Int => [pI n]) (fun n => (Lit.int .i64 n).wf = true) := opens_int Try.underlying3
theorem opBool : Opens P 4 (fun b : Bool => [pB b]) (fun _ => True) := opens_bool Try.underlying4
theorem opStep : Opens P 74 Step.enc Step.Ok := by
  have h := opens_struct (total := 6) Try.underlying74 (by kernel_rfl) (from_cons 1 rfl rfl (by kernel_rfl) opStr (from_cons 1 rfl rfl (by kernel_rfl) opInt (from_cons 1 rfl rfl (by kernel_rfl) opStr (from_cons 1 rfl rfl (by kernel_rfl) opStr (from_cons 1 rfl rfl (by kernel_rfl) opStr (from_last 1 rfl rfl (by kernel_rfl) rfl opInt))))))
  exact opens_iso (fun q : ByteArray × Int × ByteArray × ByteArray × ByteArray × Int => ⟨q.1, q.2.1, q.2.2.1, q.2.2.2.1, q.2.2.2.2.1, q.2.2.2.2.2⟩) (fun _ => rfl) (fun _ h => ⟨h.1, h.2.2.1, h.2.2.2.1, h.2.2.2.2.1⟩) h
theorem opSteps : Opens P 34 (fun l : List Step => [encSteps l]) StepsOk := by
  have h := opens_slice (sz := 6) (B := 80) Try.underlying34 (by kernel_rfl) (by decide) (by kernel_rfl) opStep
  exact opens_iso id (fun _ => rfl) (fun _ h => ⟨h.1, h.2⟩) h
theorem opRec : Opens P 44 Rec.enc Rec.Ok := by
  have h := opens_struct (total := 6) Try.underlying44 (by kernel_rfl) (from_cons 1 rfl rfl (by kernel_rfl) opInt (from_cons 1 rfl rfl (by kernel_rfl) opInt (from_cons 1 rfl rfl (by kernel_rfl) opInt (from_cons 1 rfl rfl (by kernel_rfl) opStr (from_cons 1 rfl rfl (by kernel_rfl) opStr (from_last 1 rfl rfl (by kernel_rfl) rfl opSteps))))))
  exact opens_iso (fun q : Int × Int × Int × ByteArray × ByteArray × List Step => ⟨q.1, q.2.1, q.2.2.1, q.2.2.2.1, q.2.2.2.2.1, q.2.2.2.2.2⟩) (fun _ => rfl) (fun _ h => ⟨h.2.2.2.1, h.2.2.2.2.1, h.2.2.2.2.2⟩) h
theorem opSaga : Opens P 36 Saga.enc Saga.Ok := by
  have h := opens_struct (total := 9) Try.underlying36 (by kernel_rfl) (from_cons 1 rfl rfl (by kernel_rfl) opInt (from_cons 1 rfl rfl (by kernel_rfl) opStr (from_cons 1 rfl rfl (by kernel_rfl) opStr (from_cons 1 rfl rfl (by kernel_rfl) opSteps (from_cons 1 rfl rfl (by kernel_rfl) opInt (from_cons 1 rfl rfl (by kernel_rfl) opBool (from_cons 1 rfl rfl (by kernel_rfl) opBool (from_cons 1 rfl rfl (by kernel_rfl) opInt (from_last 1 rfl rfl (by kernel_rfl) rfl opInt)))))))))
  exact opens_iso (fun q : Int × ByteArray × ByteArray × List Step × Int × Bool × Bool × Int × Int => ⟨q.1, q.2.1, q.2.2.1, q.2.2.2.1, q.2.2.2.2.1, q.2.2.2.2.2.1, q.2.2.2.2.2.2.1, q.2.2.2.2.2.2.2.1, q.2.2.2.2.2.2.2.2⟩) (fun _ => rfl) (fun _ h => ⟨h.2.1, h.2.2.1, h.2.2.2.1⟩) h
theorem opAsk2 : Opens P 26 (fun q : List ByteArray × List Int => [encStrs q.1, encInts q.2]) (fun q => q.1.length * 16 ≤ 140737488351232) := by
  have h := opens_struct (total := 2) Try.underlying26 (by kernel_rfl) (from_cons 1 rfl rfl (by kernel_rfl) (opens_slice (sz := 1) (B := 16) Try.underlying23 (by kernel_rfl) (by decide) (by kernel_rfl) opStr) (from_last 1 rfl rfl (by kernel_rfl) rfl (opens_slice (sz := 1) (B := 8) Try.underlying24 (by kernel_rfl) (by decide) (by kernel_rfl) opInt)))
  exact opens_iso id (fun _ => rfl) (fun _ h => h.1.1) h
theorem opAsk11 : Opens P 28 (fun q : List Rec × List ByteArray × List Int => [encRecs q.1, encStrs q.2.1, encInts q.2.2]) (fun q => (q.1.length * 80 ≤ 140737488351232 ∧ ∀ r ∈ q.1, r.Ok) ∧ q.2.1.length * 16 ≤ 140737488351232) := by
  have h := opens_struct (total := 3) Try.underlying28 (by kernel_rfl) (from_cons 1 rfl rfl (by kernel_rfl) (opens_slice (sz := 6) (B := 80) Try.underlying22 (by kernel_rfl) (by decide) (by kernel_rfl) opRec) (from_last 2 rfl rfl (by kernel_rfl) rfl opAsk2))
  exact opens_iso id (fun _ => rfl) (fun _ h => h) h
theorem opAsk : Opens P 31 (fun q : List Rec × List ByteArray × List Int × List Saga => [encRecs q.1, encStrs q.2.1, encInts q.2.2.1, encSagas q.2.2.2]) (fun q => AskOk q.1 q.2.1 q.2.2.1 q.2.2.2) := by
  have h := opens_struct (total := 4) Try.underlying31 (by kernel_rfl) (from_cons 3 rfl rfl (by kernel_rfl) opAsk11 (from_last 1 rfl rfl (by kernel_rfl) rfl (opens_slice (sz := 9) (B := 96) Try.underlying29 (by kernel_rfl) (by decide) (by kernel_rfl) opSaga)))
  exact opens_iso (fun q : (List Rec × List ByteArray × List Int) × List Saga => (q.1.1, q.1.2.1, q.1.2.2, q.2)) (fun _ => rfl) (fun _ h => ⟨h.1.1.1, h.1.1.2, h.1.2, h.2.1, h.2.2⟩) h
end Go.Proofs.Ytbfjcbhpbldlcaa.Rx
