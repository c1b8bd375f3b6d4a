/- What a record begins; a saga that is called, and done. -/
import Derived.Test.YtbfjcbhpbldlcaaRxM18
set_option linter.unusedVariables false
set_option linter.unusedSimpArgs false
namespace Go.Rx
def beginS (r : Rec) : Saga × Int := if (r.kind != 1 || !(recB r)) = true then (zS, 1) else (⟨r.id, r.key, r.body, r.steps, 0, false, false, 0, 0⟩, 0)
def b0 : Rec := ⟨1, 1, 0, ⟨#[107]⟩, ⟨#[98]⟩, [⟨⟨#[97]⟩, 1, ⟨#[99, 114, 101, 100, 105, 116]⟩, ⟨#[100, 101, 98, 105, 116]⟩, ⟨#[]⟩, 0⟩]⟩
def s0 : Saga := ⟨1, ⟨#[107]⟩, ⟨#[98]⟩, [⟨⟨#[97]⟩, 1, ⟨#[99, 114, 101, 100, 105, 116]⟩, ⟨#[100, 101, 98, 105, 116]⟩, ⟨#[]⟩, 0⟩], 0, false, false, 0, 0⟩
def s1 : Saga := ⟨1, ⟨#[107]⟩, ⟨#[98]⟩, [⟨⟨#[97]⟩, 1, ⟨#[99, 114, 101, 100, 105, 116]⟩, ⟨#[100, 101, 98, 105, 116]⟩, ⟨#[]⟩, 0⟩], 0, true, false, 0, 0⟩
def s2 : Saga := ⟨1, ⟨#[107]⟩, ⟨#[98]⟩, [⟨⟨#[97]⟩, 1, ⟨#[99, 114, 101, 100, 105, 116]⟩, ⟨#[100, 101, 98, 105, 116]⟩, ⟨#[]⟩, 0⟩], 1, false, false, 0, 0⟩
theorem ok1 : StepsOk [⟨⟨#[97]⟩, 1, ⟨#[99, 114, 101, 100, 105, 116]⟩, ⟨#[100, 101, 98, 105, 116]⟩, ⟨#[]⟩, 0⟩] := ⟨by decide, by
  intro x hx
  rw [List.mem_singleton] at hx
  subst hx
  exact ⟨by decide, by decide, by decide, by decide⟩⟩
theorem okr (k i n : Int) : (⟨k, i, n, ⟨#[]⟩, ⟨#[]⟩, []⟩ : Rec).Ok := ⟨by show (0 : Nat) ≤ _; omega, by show (0 : Nat) ≤ _; omega, by show (0 : Nat) * 80 ≤ _; omega, by intro x hx; cases hx⟩
end Go.Rx
namespace Go.Proofs.Ytbfjcbhpbldlcaa.Rx
open Go.Rx Go.Proofs Go.Proofs.Ytbfjcbhpbldlcaa.RxH

theorem beginTop_con (r : Rec) (hr : r.Ok) : Con P 34 [encRec r] (sagaE (beginS r)) [] := by
  refine Con.of T_ok Try.func34 rfl (by kernel_rfl) (by kernel_rfl) (aw_of T_ok (by kernel_rfl) ?_)
  conv => whnf
  split <;> rename_i h1 <;> conv => whnf
  · exact finZ ⟨by rw [beginS, if_pos (by rw [show (r.kind != 1) = true from h1]; rfl)]⟩
  refine callS (recMay_con r hr) rfl ?_
  conv => whnf
  split <;> rename_i h2 <;> conv => whnf
  · exact finZ ⟨by rw [beginS, if_pos (by rw [show (!(recB r)) = true from h2, Bool.or_true])]⟩
  rw [beginS, if_neg (by rw [show (r.kind != 1) = false from h1, show (!(recB r)) = false from h2]; decide)]
  refine AW.draw T_ok rfl (seqPl 0 12) (by kernel_rfl) (by kernel_rfl) ?_
  conv => whnf
  refine callU (clone_con r.steps hr.steps.len) (fun _ => rfl) ?_
  conv => whnf
  exact finE (s := ⟨r.id, r.key, r.body, r.steps, 0, false, false, 0, 0⟩) (e := 0) ⟨rfl⟩
theorem begin14_con : Con P 45 [] (encRec b0) [] := by
  refine Con.of T_ok Try.func45 rfl (by kernel_rfl) (by kernel_rfl) (aw_of T_ok (by kernel_rfl) ?_)
  conv => whnf
  refine ⟨rfl, ?_⟩
  exact finA ⟨rfl⟩
theorem go1 : beginS b0 = (s0, 0) := by kernel_rfl
theorem go2 : applyS s0 ⟨2, 1, 0, ⟨#[]⟩, ⟨#[]⟩, []⟩ = (s1, 0) := by kernel_rfl
theorem go3 : applyS s1 ⟨3, 1, 0, ⟨#[]⟩, ⟨#[]⟩, []⟩ = (s2, 0) := by kernel_rfl
theorem go4 : applyS s2 ⟨4, 1, 0, ⟨#[]⟩, ⟨#[]⟩, []⟩ = (zS, 9) := by kernel_rfl
theorem wakes_con : Con P 20 [] (Bl true) [] := by
  refine Con.of T_ok Try.func20 rfl (by kernel_rfl) (by kernel_rfl) (aw_of T_ok (by kernel_rfl) ?_)
  conv => whnf
  refine callU begin14_con (fun _ => rfl) ?_
  conv => whnf
  have c1 := beginTop_con b0 ⟨by decide, by decide, ok1⟩
  rw [go1] at c1
  refine callU c1 (fun _ => rfl) ?_
  conv => whnf
  have c2 := apply_con s0 ⟨2, 1, 0, ⟨#[]⟩, ⟨#[]⟩, []⟩ ⟨by decide, by decide, ok1⟩ (okr 2 1 0)
  rw [go2] at c2
  refine callP c2 ⟨.inl rfl, .inr (.inr ⟨_, _, rfl, rfl, wkE _, wkE _, wkE _, wkE _, wkE _, wkN 6, trivial⟩), trivial⟩ (fun _ => rfl) ?_
  conv => whnf
  have c3 := apply_con s1 ⟨3, 1, 0, ⟨#[]⟩, ⟨#[]⟩, []⟩ ⟨by decide, by decide, ok1⟩ (okr 3 1 0)
  rw [go3] at c3
  refine callP c3 ⟨.inl rfl, .inr (.inr ⟨_, _, rfl, rfl, wkE _, wkE _, wkE _, wkE _, wkE _, wkN 6, trivial⟩), trivial⟩ (fun _ => rfl) ?_
  conv => whnf
  have c4 := apply_con s2 ⟨4, 1, 0, ⟨#[]⟩, ⟨#[]⟩, []⟩ ⟨by decide, by decide, ok1⟩ (okr 4 1 0)
  rw [go4] at c4
  refine callP c4 ⟨.inl rfl, .inr (.inr ⟨_, _, rfl, rfl, wkE _, wkE _, wkE _, wkE _, wkE _, wkN 6, trivial⟩), trivial⟩ (fun _ => rfl) ?_
  conv => whnf
  refine callS (num_con 0 (by decide)) rfl ?_
  conv => whnf
  refine callS (num_con 0 (by decide)) rfl ?_
  conv => whnf
  refine callS (num_con 0 (by decide)) rfl ?_
  conv => whnf
  refine callS (num_con 9 (by decide)) rfl ?_
  conv => whnf
  exact finB ⟨rfl⟩
end Go.Proofs.Ytbfjcbhpbldlcaa.Rx
