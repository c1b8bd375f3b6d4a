/- How much the input is: a number, whatever it is. -/
import Derived.Test.YtooiiihaijpbaaaRxM2
set_option linter.unusedVariables false
set_option linter.unusedSimpArgs false
namespace Go.Rx
/-- A sum that stops where it is great. -/
def capSum : List Int → Int → Int
  | [], n => n
  | x :: l, n => if n < 1048576 then capSum l (IntKind.i64.wrap (n + x)) else n
theorem capSum_go {l : List Int} {k : Nat} {n : Int} (h : k < l.length) (hn : n < 1048576) : capSum (l.drop k) n = capSum (l.drop (k + 1)) (IntKind.i64.wrap (n + l[k])) := by
  rw [List.drop_eq_getElem_cons h, capSum, if_pos hn]
theorem capSum_stop {l : List Int} {n : Int} (hn : ¬ n < 1048576) : capSum l n = n := by
  cases l with
  | nil => rfl
  | cons x l => rw [capSum, if_neg hn]
abbrev okS (s : ByteArray) : Prop := s.size ≤ 140737488351232
structure Step.Ok (s : Step) : Prop where
  nm : okS s.nm
  op : okS s.op
  undo : okS s.undo
  who : okS s.who
def Step.w (s : Step) : Int := IntKind.i64.wrap (IntKind.i64.wrap (IntKind.i64.wrap ((s.nm.size : Int) + s.op.size) + s.undo.size) + s.who.size) / 8
def stepsW (l : List Step) : Int := capSum (l.map Step.w) l.length
def sumW (a b : ByteArray) : Int := IntKind.i64.wrap ((a.size : Int) + b.size) / 64
theorem Step.sum_eq {s : Step} (h : s.Ok) : IntKind.i64.wrap (IntKind.i64.wrap (IntKind.i64.wrap ((s.nm.size : Int) + s.op.size) + s.undo.size) + s.who.size) = s.nm.size + s.op.size + s.undo.size + s.who.size := by
  have := h.nm; have := h.op; have := h.undo; have := h.who
  simp only [okS] at *
  rw [wrapI (n := (s.nm.size : Int) + s.op.size) (by omega), wrapI (n := (s.nm.size : Int) + s.op.size + s.undo.size) (by omega), wrapI (by omega)]
abbrev encStrs (l : List ByteArray) : PV := .sl 1 (l.map fun s => [pS s])
abbrev encInts (l : List Int) : PV := .sl 1 (l.map fun n => [pI n])
abbrev encSagas (l : List Saga) : PV := .sl 9 (l.map Saga.enc)
abbrev encRecs (l : List Rec) : PV := .sl 6 (l.map Rec.enc)
def textsW (l : List ByteArray) : Int := capSum (l.map fun s => (s.size : Int)) l.length
def recW (r : Rec) : Int := IntKind.i64.wrap (IntKind.i64.wrap (1 + sumW r.key r.body) + stepsW r.steps)
def sagaW (s : Saga) : Int := IntKind.i64.wrap (IntKind.i64.wrap (1 + sumW s.key s.body) + stepsW s.steps)
structure StepsOk (l : List Step) : Prop where
  len : l.length * 80 ≤ 140737488351232
  each : ∀ x ∈ l, x.Ok
structure Rec.Ok (r : Rec) : Prop where
  key : okS r.key
  body : okS r.body
  steps : StepsOk r.steps
structure Saga.Ok (s : Saga) : Prop where
  key : okS s.key
  body : okS s.body
  steps : StepsOk s.steps
end Go.Rx
namespace Go.Proofs.Ytooiiihaijpbaaa.Rx
open Go.Rx Go.Proofs

structure AskOk (R : List Rec) (S : List ByteArray) (N : List Int) (G : List Saga) : Prop where
  hR : R.length * 80 ≤ 140737488351232
  hRs : ∀ r ∈ R, r.Ok
  hS : S.length * 16 ≤ 140737488351232
  hG : G.length * 96 ≤ 140737488351232
  hGs : ∀ s ∈ G, s.Ok
end Go.Proofs.Ytooiiihaijpbaaa.Rx
