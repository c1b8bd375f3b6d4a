/- Ops and their pairs; is a text, or a step, among others? -/
import Derived.Test.YtbfjcbhpbldlcaaRxM4
set_option linter.unusedVariables false
set_option linter.unusedSimpArgs false
namespace Go.Rx
def idxL {α : Type} (p : α → Bool) : List α → Nat → Int
  | [], _ => -1
  | y :: l, k => if p y then k else idxL p l (k + 1)
theorem idx_go {α : Type} {p : α → Bool} {l : List α} {k : Nat} (h : k < l.length) : idxL p (l.drop k) k = if p l[k] then (k : Int) else idxL p (l.drop (k + 1)) (k + 1) := by
  rw [List.drop_eq_getElem_cons h, idxL]
theorem idx_end {α : Type} {p : α → Bool} {l : List α} {k : Nat} (h : l.length ≤ k) : idxL p (l.drop k) k = -1 := by
  rw [List.drop_of_length_le h, idxL]
theorem idx_any {α : Type} {p : α → Bool} : ∀ (l : List α) (k : Nat), decide (0 ≤ idxL p l k) = l.any p
  | [], _ => rfl
  | y :: l, k => by
    rw [idxL, List.any_cons]
    cases hp : p y with
    | true => simp
    | false => simpa using idx_any l (k + 1)
abbrev encStep (s : Step) : AV := .agg [.pv (pS s.nm), .pv (pI s.service), .pv (pS s.op), .pv (pS s.undo), .pv (pS s.who), .pv (pI s.n)]
def opsS (n : Int) : List ByteArray :=
  if n = 1 then [⟨#[99, 114, 101, 100, 105, 116]⟩, ⟨#[100, 101, 98, 105, 116]⟩] else if n = 2 then [⟨#[112, 117, 116]⟩, ⟨#[116, 97, 107, 101]⟩]
  else if n = 3 then [⟨#[98, 111, 111, 107]⟩, ⟨#[99, 97, 110, 99, 101, 108]⟩] else if n = 4 then [⟨#[115, 101, 110, 100]⟩, ⟨#[114, 101, 99, 97, 108, 108]⟩] else []
def pairB (n : Int) (d u : ByteArray) : Bool := (opsS n).any (d == ·) && (opsS n).any (u == ·) && !(d == u)
end Go.Rx
namespace Go.Proofs.Ytbfjcbhpbldlcaa.Rx
open Go.Rx Go.Proofs

theorem index_con (l : List ByteArray) (x : ByteArray) (hl : l.length * 16 ≤ 140737488351232) : Con P 91 [.lf (.pv (encStrs l)), Sx x] (I (idxL (x == ·) l 0)) [] := by
  refine Con.of T_ok Try.func91 rfl (by kernel_rfl) (by kernel_rfl) (aw_of T_ok (by kernel_rfl) ?_)
  conv => whnf
  refine AW.loop (fun k : Nat => k ≤ l.length ∧ idxL (x == ·) (l.drop k) k = idxL (x == ·) l 0) (fun k => [(0, .lf (.pv (encStrs l))), (1, Sx x), (7, Go.Rx.I l.length), (8, Go.Rx.I k)]) (fun _ => []) (fun k => l.length - k) [] ?_ ?_
  · exact ⟨0, ⟨Nat.zero_le _, rfl⟩, ⟨rfl, rfl, congrArg (fun n : Nat => Go.Rx.I (n : Int)) (List.length_map ..), rfl, trivial⟩, ⟨[], rfl⟩, rfl, rfl⟩
  · rintro k ⟨hk, hpre⟩
    refine aw_of T_ok (by kernel_rfl) ?_
    conv => whnf
    split <;> rename_i hlt <;> conv => whnf
    · have hkl : k < l.length := by simpa using hlt
      rw [idx_go hkl] at hpre
      refine ⟨by omega, [pS l[k]], by simp [hkl], ?_⟩
      conv => whnf
      split <;> rename_i he <;> conv => whnf
      · refine finI ⟨?_⟩
        rw [← hpre, if_pos (show (x == l[k]) = true from he)]
      · refine ⟨k + 1, ⟨⟨by omega, ?_⟩, by omega⟩, ⟨rfl, rfl, rfl, congrArg Go.Rx.I (wrapI (by omega)), trivial⟩, ⟨[], rfl⟩, rfl, rfl⟩
        rw [← hpre, if_neg (by rw [show (x == l[k]) = false from he]; decide)]
    · refine finI ⟨?_⟩
      have hkl : l.length ≤ k := by simpa using hlt
      rw [← hpre, idx_end hkl]
theorem contains_con (l : List ByteArray) (x : ByteArray) (hl : l.length * 16 ≤ 140737488351232) : Con P 87 [.lf (.pv (encStrs l)), Sx x] (Bl (l.any (x == ·))) [] := by
  refine Con.of T_ok Try.func87 rfl (by kernel_rfl) (by kernel_rfl) (aw_of T_ok (by kernel_rfl) ?_)
  conv => whnf
  refine callS (index_con l x hl) rfl ?_
  conv => whnf
  exact finB ⟨idx_any l 0⟩
theorem may1_con (s x : Step) : Con P 75 [encStep s, .lf (.ro x.enc)] (Bl (s.nm == x.nm)) [] := by
  refine Con.of T_ok Try.func75 rfl (by kernel_rfl) (by kernel_rfl) (aw_of T_ok (by kernel_rfl) ?_)
  conv => whnf
  exact finB ⟨rfl⟩
theorem indexFunc_con (l : List Step) (x : Step) (hl : l.length * 80 ≤ 140737488351232) : Con P 85 [.lf (.pv (encSteps l)), .lf (.fn 75 [x.enc])] (I (idxL (fun s : Step => s.nm == x.nm) l 0)) [] := by
  refine Con.of T_ok Try.func85 rfl (by kernel_rfl) (by kernel_rfl) (aw_of T_ok (by kernel_rfl) ?_)
  conv => whnf
  refine AW.loop (fun k : Nat => k ≤ l.length ∧ idxL (fun s : Step => s.nm == x.nm) (l.drop k) k = idxL (fun s : Step => s.nm == x.nm) l 0) (fun k => [(0, .lf (.pv (encSteps l))), (1, .lf (.fn 75 [x.enc])), (7, Go.Rx.I l.length), (8, Go.Rx.I k)]) (fun _ => []) (fun k => l.length - k) [] ?_ ?_
  · exact ⟨0, ⟨Nat.zero_le _, rfl⟩, ⟨rfl, rfl, congrArg (fun n : Nat => Go.Rx.I (n : Int)) (List.length_map ..), rfl, trivial⟩, ⟨[], rfl⟩, rfl, rfl⟩
  · rintro k ⟨hk, hpre⟩
    refine aw_of T_ok (by kernel_rfl) ?_
    conv => whnf
    split <;> rename_i hlt <;> conv => whnf
    · have hkl : k < l.length := by simpa using hlt
      rw [idx_go hkl] at hpre
      refine ⟨by omega, (l[k]).enc, by simp [hkl], ?_⟩
      conv => whnf
      refine callS (may1_con l[k] x) rfl ?_
      conv => whnf
      split <;> rename_i he <;> conv => whnf
      · refine finI ⟨?_⟩
        rw [← hpre, if_pos (show (l[k].nm == x.nm) = true from he)]
      · refine ⟨k + 1, ⟨⟨by omega, ?_⟩, by omega⟩, ⟨rfl, rfl, rfl, congrArg Go.Rx.I (wrapI (by omega)), trivial⟩, ⟨[], rfl⟩, rfl, rfl⟩
        rw [← hpre, if_neg (by rw [show (l[k].nm == x.nm) = false from he]; decide)]
    · refine finI ⟨?_⟩
      have hkl : l.length ≤ k := by simpa using hlt
      rw [← hpre, idx_end hkl]
theorem containsFunc_con (l : List Step) (x : Step) (hl : l.length * 80 ≤ 140737488351232) : Con P 74 [.lf (.pv (encSteps l)), .lf (.fn 75 [x.enc])] (Bl (l.any fun s : Step => s.nm == x.nm)) [] := by
  refine Con.of T_ok Try.func74 rfl (by kernel_rfl) (by kernel_rfl) (aw_of T_ok (by kernel_rfl) ?_)
  conv => whnf
  refine callS (indexFunc_con l x hl) rfl ?_
  conv => whnf
  exact finB ⟨idx_any l 0⟩
theorem ops4_con (n : Int) : Con P 44 [I n] (.lf (.pv (encStrs (opsS n)))) [] := by
  refine Con.of T_ok Try.func44 rfl (by kernel_rfl) (by kernel_rfl) (aw_of T_ok (by kernel_rfl) ?_)
  conv => whnf
  split <;> rename_i h <;> conv => whnf
  · obtain rfl : n = 1 := by simpa using h
    exact ⟨rfl, finA ⟨rfl⟩⟩
  · split <;> rename_i h2 <;> conv => whnf
    · obtain rfl : n = 2 := by simpa using h2
      exact ⟨rfl, finA ⟨rfl⟩⟩
    · split <;> rename_i h3 <;> conv => whnf
      · obtain rfl : n = 3 := by simpa using h3
        exact ⟨rfl, finA ⟨rfl⟩⟩
      · split <;> rename_i h4 <;> conv => whnf
        · obtain rfl : n = 4 := by simpa using h4
          exact ⟨rfl, finA ⟨rfl⟩⟩
        · have h1 : ¬ n = 1 := by simpa using h
          have h2 : ¬ n = 2 := by simpa using h2
          have h3 : ¬ n = 3 := by simpa using h3
          have h4 : ¬ n = 4 := by simpa using h4
          rw [show opsS n = [] by unfold opsS; rw [if_neg h1, if_neg h2, if_neg h3, if_neg h4]]
          exact ⟨[.lf (.pv (.sl 1 []))], ⟨.inr (.inl ⟨_, _, rfl, rfl, wkN 1⟩), trivial⟩, rfl⟩
theorem ops_con (n : Int) (h : 1 ≤ n ∧ n ≤ 4) : Con P 86 [I n] (.lf (.pv (encStrs (opsS n)))) [] := by
  refine Con.of T_ok Try.func86 rfl (by kernel_rfl) (by kernel_rfl) (aw_of T_ok (by kernel_rfl) ?_)
  obtain rfl | rfl | rfl | rfl : n = 1 ∨ n = 2 ∨ n = 3 ∨ n = 4 := by omega
  all_goals conv => whnf
  all_goals (refine ⟨rfl, ?_⟩; conv => whnf)
  all_goals (refine ⟨rfl, ?_⟩; conv => whnf)
  all_goals (refine ⟨rfl, ?_⟩; conv => whnf)
  all_goals (refine ⟨rfl, ?_⟩; conv => whnf)
  all_goals (refine ⟨rfl, by decide, by decide, ?_⟩; conv => whnf)
  all_goals (refine ⟨rfl, rfl, _, rfl, ?_⟩; conv => whnf)
  all_goals exact finA ⟨rfl⟩
theorem ops_len (n : Int) : (opsS n).length * 16 ≤ 140737488351232 := by
  unfold opsS; repeat' split
  all_goals decide
theorem ops_two (n : Int) : (∃ p q, opsS n = [p, q] ∧ (p == q) = false) ∨ opsS n = [] := by
  unfold opsS; repeat' split
  all_goals first | exact .inr rfl | exact .inl ⟨_, _, rfl, by decide⟩
theorem pair_con (n : Int) (d u : ByteArray) (h : 1 ≤ n ∧ n ≤ 4) : Con P 77 [I n, Sx d, Sx u] (Bl (pairB n d u)) [] := by
  refine Con.of T_ok Try.func77 rfl (by kernel_rfl) (by kernel_rfl) (aw_of T_ok (by kernel_rfl) ?_)
  conv => whnf
  refine callU (ops_con n h) (fun _ => rfl) ?_
  conv => whnf
  refine callS (contains_con (opsS n) d (ops_len n)) rfl ?_
  conv => whnf
  split <;> rename_i h1 <;> conv => whnf
  · refine callS (contains_con (opsS n) u (ops_len n)) rfl ?_
    conv => whnf
    split <;> rename_i h2 <;> conv => whnf
    · refine finB ⟨?_⟩
      rw [pairB, h1, h2]; rfl
    · refine finB ⟨?_⟩
      rw [pairB, h1, h2]; rfl
  · refine finB ⟨?_⟩
    rw [pairB, h1]; rfl
theorem pair4_con (n : Int) (d u : ByteArray) : Con P 19 [I n, Sx d, Sx u] (Bl (pairB n d u)) [] := by
  refine Con.of T_ok Try.func19 rfl (by kernel_rfl) (by kernel_rfl) (aw_of T_ok (by kernel_rfl) ?_)
  conv => whnf
  refine callU (ops4_con n) (fun _ => rfl) ?_
  rcases ops_two n with ⟨p, q, e, hne⟩ | e
  · rw [pairB, e]
    conv => whnf
    refine ⟨by decide, _, rfl, ?_⟩
    conv => whnf
    split <;> rename_i h1 <;> conv => whnf
    · refine ⟨by decide, _, rfl, ?_⟩
      conv => whnf
      split <;> rename_i h2 <;> conv => whnf
      · refine finB ⟨?_⟩
        obtain rfl := eq_of_beq h1
        obtain rfl := eq_of_beq h2
        simp [hne]
      · refine ⟨by decide, _, rfl, ?_⟩
        conv => whnf
        split <;> rename_i h3 <;> conv => whnf
        · obtain rfl := eq_of_beq h1
          rw [show (d == q) = false from hne] at h3
          cases h3
        · refine finB ⟨?_⟩
          obtain rfl := eq_of_beq h1
          by_cases e : u = d
          · subst e; simp
          · simp [show (u == q) = false from h2, show (u == d) = false from beq_eq_false_iff_ne.2 e]
    · refine ⟨by decide, _, rfl, ?_⟩
      conv => whnf
      split <;> rename_i h3 <;> conv => whnf
      · refine ⟨by decide, _, rfl, ?_⟩
        conv => whnf
        refine finB ⟨?_⟩
        obtain rfl := eq_of_beq h3
        by_cases e1 : u = p
        · subst e1; simp [show (d == u) = false from h1]
        · by_cases e2 : u = d
          · subst e2; simp [e1]
          · simp [beq_eq_false_iff_ne.2 e1, beq_eq_false_iff_ne.2 e2]
      · refine finB ⟨?_⟩
        simp [show (d == p) = false from h1, show (d == q) = false from h3]
  · rw [pairB, e]
    conv => whnf
    exact finB ⟨rfl⟩
end Go.Proofs.Ytbfjcbhpbldlcaa.Rx
