/- The arguments of the ledgers' laws, opened. -/
import Derived.Test.YtooiiihaijpbaaaRxL
import Derived.Test.YtooiiihaijpbaaaRxD12
namespace Go.Proofs.Ytooiiihaijpbaaa.Rx
open Go.Rx Go.Rx.Lift Go.Proofs

theorem opStr : Opens P 9 (fun s : ByteArray => [pS s]) (fun s => s.size ≤ 140737488351232) := opens_string Try.underlying9
theorem opInt : Opens P 3 (fun n : Int => [pI n]) (fun n => (Lit.int .i64 n).wf = true) := opens_int Try.underlying3
theorem opBool : Opens P 4 (fun b : Bool => [pB b]) (fun _ => True) := opens_bool Try.underlying4
theorem opEntry : Opens P 50 Entry.enc Entry.Ok := by
  have h := opens_struct (total := 5) Try.underlying50 (by kernel_rfl) (from_cons 1 rfl rfl (by kernel_rfl) opInt (from_cons 1 rfl rfl (by kernel_rfl) opBool (from_cons 1 rfl rfl (by kernel_rfl) opStr (from_cons 1 rfl rfl (by kernel_rfl) opStr (from_last 1 rfl rfl (by kernel_rfl) rfl opInt)))))
  exact opens_iso (fun q : Int × Bool × ByteArray × ByteArray × Int => ⟨q.1, q.2.1, q.2.2.1, q.2.2.2.1, q.2.2.2.2⟩) (fun _ => rfl) (fun _ h => ⟨h.2.2.1, h.2.2.2.1⟩) h
theorem opLedger : Opens P 25 Ledger.enc Ledger.Ok := by
  have h := opens_struct (total := 3) Try.underlying25 (by kernel_rfl) (from_cons 1 rfl rfl (by kernel_rfl) opInt (from_cons 1 rfl rfl (by kernel_rfl) (opens_slice (sz := 5) (B := 56) Try.underlying22 (by kernel_rfl) (by decide) (by kernel_rfl) opEntry) (from_last 1 rfl rfl (by kernel_rfl) rfl (opens_slice (sz := 1) (B := 8) Try.underlying23 (by kernel_rfl) (by decide) (by kernel_rfl) opInt))))
  exact opens_iso (fun q : Int × List Entry × List Int => ⟨q.1, q.2.1, q.2.2⟩) (fun _ => rfl) (fun _ h => ⟨h.2.1.1, h.2.2.1, h.2.1.2⟩) h
theorem opAct : Opens P 44 LAct.enc (fun a => okS a.who) := by
  have h := opens_struct (total := 7) Try.underlying44 (by kernel_rfl) (from_cons 1 rfl rfl (by kernel_rfl) opInt (from_cons 1 rfl rfl (by kernel_rfl) opInt (from_cons 1 rfl rfl (by kernel_rfl) opInt (from_cons 1 rfl rfl (by kernel_rfl) opInt (from_cons 1 rfl rfl (by kernel_rfl) opInt (from_cons 1 rfl rfl (by kernel_rfl) opInt (from_last 1 rfl rfl (by kernel_rfl) rfl opStr)))))))
  exact opens_iso (fun q : Int × Int × Int × Int × Int × Int × ByteArray => ⟨q.1, q.2.1, q.2.2.1, q.2.2.2.1, q.2.2.2.2.1, q.2.2.2.2.2.1, q.2.2.2.2.2.2⟩) (fun _ => rfl) (fun _ h => h.2.2.2.2.2.2) h
theorem opScript : Opens P 28 (fun p : LScript => [pI p.g.service, encEntries p.g.entries, encInts p.g.known, pI p.service, encActs p.l]) LScript.Ok := by
  have h := opens_struct (total := 5) Try.underlying28 (by kernel_rfl) (from_cons 3 rfl rfl (by kernel_rfl) opLedger (from_cons 1 rfl rfl (by kernel_rfl) opInt (from_last 1 rfl rfl (by kernel_rfl) rfl (opens_slice (sz := 7) (B := 64) Try.underlying26 (by kernel_rfl) (by decide) (by kernel_rfl) opAct))))
  exact opens_iso (fun q : Ledger × Int × List LAct => ⟨q.1, q.2.1, q.2.2⟩) (fun _ => rfl) (fun _ h => ⟨h.1, h.2.2.1, h.2.2.2⟩) h
end Go.Proofs.Ytooiiihaijpbaaa.Rx
