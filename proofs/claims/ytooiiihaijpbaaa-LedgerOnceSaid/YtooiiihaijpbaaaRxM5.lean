/- Ops and their pairs; is a text, or a step, among others? -/
import Derived.Test.YtooiiihaijpbaaaRxM4
set_option linter.unusedVariables false
set_option linter.unusedSimpArgs false
namespace Go.Rx
def idxL {α : Type} (p : α → Bool) : List α → Nat → Int
  | [], _ => -1
  | y :: l, k => if p y then k else idxL p l (k + 1)
theorem idx_go {α : Type} {p : α → Bool} {l : List α} {k : Nat} (h : k < l.length) : idxL p (l.drop k) k = if p l[k] then (k : Int) else idxL p (l.drop (k + 1)) (k + 1) := by
  rw [List.drop_eq_getElem_cons h, idxL]
theorem idx_end {α : Type} {p : α → Bool} {l : List α} {k : Nat} (h : l.length ≤ k) : idxL p (l.drop k) k = -1 := by
  rw [List.drop_of_length_le h, idxL]
theorem idx_any {α : Type} {p : α → Bool} : ∀ (l : List α) (k : Nat), decide (0 ≤ idxL p l k) = l.any p
  | [], _ => rfl
  | y :: l, k => by
    rw [idxL, List.any_cons]
    cases hp : p y with
    | true => simp
    | false => simpa using idx_any l (k + 1)
abbrev encStep (s : Step) : AV := .agg [.pv (pS s.nm), .pv (pI s.service), .pv (pS s.op), .pv (pS s.undo), .pv (pS s.who), .pv (pI s.n)]
def opsS (n : Int) : List ByteArray :=
  if n = 1 then [⟨#[99, 114, 101, 100, 105, 116]⟩, ⟨#[100, 101, 98, 105, 116]⟩] else if n = 2 then [⟨#[112, 117, 116]⟩, ⟨#[116, 97, 107, 101]⟩]
  else if n = 3 then [⟨#[98, 111, 111, 107]⟩, ⟨#[99, 97, 110, 99, 101, 108]⟩] else if n = 4 then [⟨#[115, 101, 110, 100]⟩, ⟨#[114, 101, 99, 97, 108, 108]⟩] else []
def pairB (n : Int) (d u : ByteArray) : Bool := (opsS n).any (d == ·) && (opsS n).any (u == ·) && !(d == u)
end Go.Rx
namespace Go.Proofs.Ytooiiihaijpbaaa.Rx
open Go.Rx Go.Proofs

theorem index_con (l : List ByteArray) (x : ByteArray) (hl : l.length * 16 ≤ 140737488351232) : Con P 73 [.lf (.pv (encStrs l)), Sx x] (I (idxL (x == ·) l 0)) [] := by
  refine Con.of T_ok Try.func73 rfl (by kernel_rfl) (by kernel_rfl) (aw_of T_ok (by kernel_rfl) ?_)
  conv => whnf
  refine AW.loop (fun k : Nat => k ≤ l.length ∧ idxL (x == ·) (l.drop k) k = idxL (x == ·) l 0) (fun k => [(0, .lf (.pv (encStrs l))), (1, Sx x), (7, Go.Rx.I l.length), (8, Go.Rx.I k)]) (fun _ => []) (fun k => l.length - k) [] ?_ ?_
  · exact ⟨0, ⟨Nat.zero_le _, rfl⟩, ⟨rfl, rfl, congrArg (fun n : Nat => Go.Rx.I (n : Int)) (List.length_map ..), rfl, trivial⟩, ⟨[], rfl⟩, rfl, rfl⟩
  · rintro k ⟨hk, hpre⟩
    refine aw_of T_ok (by kernel_rfl) ?_
    conv => whnf
    split <;> rename_i hlt <;> conv => whnf
    · have hkl : k < l.length := by simpa using hlt
      rw [idx_go hkl] at hpre
      refine ⟨by omega, [pS l[k]], by simp [hkl], ?_⟩
      conv => whnf
      split <;> rename_i he <;> conv => whnf
      · refine finI ⟨?_⟩
        rw [← hpre, if_pos (show (x == l[k]) = true from he)]
      · refine ⟨k + 1, ⟨⟨by omega, ?_⟩, by omega⟩, ⟨rfl, rfl, rfl, congrArg Go.Rx.I (wrapI (by omega)), trivial⟩, ⟨[], rfl⟩, rfl, rfl⟩
        rw [← hpre, if_neg (by rw [show (x == l[k]) = false from he]; decide)]
    · refine finI ⟨?_⟩
      have hkl : l.length ≤ k := by simpa using hlt
      rw [← hpre, idx_end hkl]
theorem contains_con (l : List ByteArray) (x : ByteArray) (hl : l.length * 16 ≤ 140737488351232) : Con P 62 [.lf (.pv (encStrs l)), Sx x] (Bl (l.any (x == ·))) [] := by
  refine Con.of T_ok Try.func62 rfl (by kernel_rfl) (by kernel_rfl) (aw_of T_ok (by kernel_rfl) ?_)
  conv => whnf
  refine callS (index_con l x hl) rfl ?_
  conv => whnf
  exact finB ⟨idx_any l 0⟩
theorem ops4_con (n : Int) : Con P 23 [I n] (.lf (.pv (encStrs (opsS n)))) [] := by
  refine Con.of T_ok Try.func23 rfl (by kernel_rfl) (by kernel_rfl) (aw_of T_ok (by kernel_rfl) ?_)
  conv => whnf
  split <;> rename_i h <;> conv => whnf
  · obtain rfl : n = 1 := by simpa using h
    exact ⟨rfl, finA ⟨rfl⟩⟩
  · split <;> rename_i h2 <;> conv => whnf
    · obtain rfl : n = 2 := by simpa using h2
      exact ⟨rfl, finA ⟨rfl⟩⟩
    · split <;> rename_i h3 <;> conv => whnf
      · obtain rfl : n = 3 := by simpa using h3
        exact ⟨rfl, finA ⟨rfl⟩⟩
      · split <;> rename_i h4 <;> conv => whnf
        · obtain rfl : n = 4 := by simpa using h4
          exact ⟨rfl, finA ⟨rfl⟩⟩
        · have h1 : ¬ n = 1 := by simpa using h
          have h2 : ¬ n = 2 := by simpa using h2
          have h3 : ¬ n = 3 := by simpa using h3
          have h4 : ¬ n = 4 := by simpa using h4
          rw [show opsS n = [] by unfold opsS; rw [if_neg h1, if_neg h2, if_neg h3, if_neg h4]]
          exact ⟨[.lf (.pv (.sl 1 []))], ⟨.inr (.inl ⟨_, _, rfl, rfl, wkN 1⟩), trivial⟩, rfl⟩
theorem ops_con (n : Int) (h : 1 ≤ n ∧ n ≤ 4) : Con P 42 [I n] (.lf (.pv (encStrs (opsS n)))) [] := by
  refine Con.of T_ok Try.func42 rfl (by kernel_rfl) (by kernel_rfl) (aw_of T_ok (by kernel_rfl) ?_)
  obtain rfl | rfl | rfl | rfl : n = 1 ∨ n = 2 ∨ n = 3 ∨ n = 4 := by omega
  all_goals conv => whnf
  all_goals (refine ⟨rfl, ?_⟩; conv => whnf)
  all_goals (refine ⟨rfl, ?_⟩; conv => whnf)
  all_goals (refine ⟨rfl, ?_⟩; conv => whnf)
  all_goals (refine ⟨rfl, ?_⟩; conv => whnf)
  all_goals (refine ⟨rfl, by decide, by decide, ?_⟩; conv => whnf)
  all_goals (refine ⟨rfl, rfl, _, rfl, ?_⟩; conv => whnf)
  all_goals exact finA ⟨rfl⟩
theorem ops_len (n : Int) : (opsS n).length * 16 ≤ 140737488351232 := by
  unfold opsS; repeat' split
  all_goals decide
theorem ops_two (n : Int) : (∃ p q, opsS n = [p, q] ∧ (p == q) = false) ∨ opsS n = [] := by
  unfold opsS; repeat' split
  all_goals first | exact .inr rfl | exact .inl ⟨_, _, rfl, by decide⟩
end Go.Proofs.Ytooiiihaijpbaaa.Rx
