/- A saga of so many steps. -/
import Derived.Test.YtbfjcbhpbldlcaaRxM24
set_option linter.unusedVariables false
set_option linter.unusedSimpArgs false
namespace Go.Rx
def roadT (i : Nat) : Step := ⟨⟨#[UInt8.ofNat (97 + i)]⟩, 3, ⟨#[98, 111, 111, 107]⟩, ⟨#[99, 97, 110, 99, 101, 108]⟩, ⟨#[119]⟩, i⟩
def roadL (n : Nat) : List Step := (List.range n).map roadT
def roadR (n : Nat) : Rec := ⟨1, 3, 0, ⟨#[107]⟩, ⟨#[98]⟩, roadL n⟩
def roadS (n : Nat) : Saga := ⟨3, ⟨#[107]⟩, ⟨#[98]⟩, roadL n, 0, false, false, 0, 0⟩
theorem road_succ (n : Nat) : roadL (n + 1) = roadL n ++ [roadT n] := by rw [roadL, List.range_succ, List.map_append]; rfl
theorem road_len (n : Nat) : (roadL n).length = n := by simp [roadL]
end Go.Rx
namespace Go.Proofs.Ytbfjcbhpbldlcaa.Rx
open Go.Rx Go.Proofs Go.Proofs.Ytbfjcbhpbldlcaa.RxH

theorem begin9_con (r : Rec) (h : r.steps.length * 80 ≤ 140737488351232) : Con P 35 [encRec r] (encSaga ⟨r.id, r.key, r.body, r.steps, 0, false, false, 0, 0⟩) [] := by
  refine Con.of T_ok Try.func35 rfl (by kernel_rfl) (by kernel_rfl) (aw_of T_ok (by kernel_rfl) ?_)
  conv => whnf
  refine AW.draw T_ok rfl (seqPl 0 11) (by kernel_rfl) (by kernel_rfl) ?_
  conv => whnf
  refine callU (copySteps_con r.steps h) (fun _ => rfl) ?_
  conv => whnf
  exact finA ⟨rfl⟩
theorem road_con (n : Nat) (hn : n ≤ 5) : Con P 21 [Go.Rx.I n] (encSaga (roadS n)) [] := by
  refine Con.of T_ok Try.func21 rfl (by kernel_rfl) (by kernel_rfl) (aw_of T_ok (by kernel_rfl) ?_)
  conv => whnf
  refine AW.loop (fun k : Nat => k ≤ n) (fun k => [(0, Go.Rx.I n), (2, .lf (.ptr 0 0)), (3, .lf (.ptr 1 0)), (4, Go.Rx.I k)])
    (fun k => [.var [.pv (pI 0), .pv (pS ⟨#[]⟩), .pv (pS ⟨#[]⟩), .pv (.sc (.slice none 0 0)), .pv (pI 0), .pv (pB false), .pv (pB false), .pv (pI 0), .pv (pI 0)],
      .var [.pv (pI 1), .pv (pI 3), .pv (pI 0), .pv (pS ⟨#[107]⟩), .pv (pS ⟨#[98]⟩), .own 2 k], .arr 74 6 ((roadL k).map Step.enc)]) (fun k => n - k) [.cell 1 5 74 6] ?_ ?_
  · exact ⟨rfl, 0, Nat.zero_le _, ⟨rfl, rfl, rfl, rfl, trivial⟩, ⟨[], rfl⟩, rfl, rfl⟩
  rintro k hk
  refine aw_of T_ok (by kernel_rfl) ?_
  conv => whnf
  split <;> rename_i hlt <;> conv => whnf
  · have hkn : k < n := by have := of_decide_eq_true hlt; omega
    refine ⟨rfl, ⟨#[UInt8.ofNat (97 + k)]⟩, ?_, ?_⟩
    · obtain rfl | rfl | rfl | rfl | rfl : k = 0 ∨ k = 1 ∨ k = 2 ∨ k = 3 ∨ k = 4 := by omega
      all_goals rfl
    conv => whnf
    refine ⟨rfl, _, .inl rfl, ?_⟩
    conv => whnf
    refine ⟨by simp [road_len], by show (k + 1) * 80 ≤ _; omega, ?_⟩
    conv => whnf
    refine ⟨k + 1, ⟨by omega, by omega⟩, ⟨rfl, rfl, rfl, congrArg Go.Rx.I (wrapI (by omega)), trivial⟩, ⟨[?r1, ?r2], ?e⟩, rfl, rfl⟩
    case e =>
      show _ = [_, _, Blk.arr _ _ ((roadL (k + 1)).map Step.enc)] ++ [_, _]
      rw [road_succ, List.map_append]; rfl
  · have hkn : k = n := by have := of_decide_eq_false hlt; omega
    subst hkn
    refine ⟨by simp [road_len], ?_⟩
    conv => whnf
    refine callU (begin9_con (roadR k) (by show (roadL k).length * 80 ≤ _; rw [road_len]; omega)) (fun _ => rfl) ?_
    conv => whnf
    exact finA ⟨rfl⟩
end Go.Proofs.Ytbfjcbhpbldlcaa.Rx
