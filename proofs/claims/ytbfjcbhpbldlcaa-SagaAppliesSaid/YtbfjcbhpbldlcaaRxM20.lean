/- Records of a kind, of each number, on sagas: the answers are the same. -/
import Derived.Test.YtbfjcbhpbldlcaaRxM19
set_option linter.unusedVariables false
set_option linter.unusedSimpArgs false
namespace Go.Rx
theorem apply_err (s : Saga) (r : Rec) : -9223372036854775808 ≤ (applyS s r).2 ∧ (applyS s r).2 ≤ 9223372036854775807 := by
  rw [applyS]; repeat' split
  all_goals (simp only; omega)
theorem apply_steps (s : Saga) (r : Rec) (h : s.steps.length * 80 ≤ 140737488351232) : (applyS s r).1.steps.length * 80 ≤ 140737488351232 := by
  have h1 : (nextS s r).steps = s.steps := by rw [nextS]; repeat' split
                                              all_goals rfl
  rw [applyS]; repeat' split
  all_goals first | (show (nextS s r).steps.length * 80 ≤ _; rw [h1]; exact h) | decide
theorem apply_form {s : Saga} {r : Rec} (h : (sagaB s && recB r) = false) : applyS s r = (zS, 1) := by
  rw [applyS, if_pos]
  rw [Bool.and_eq_false_iff] at h
  rcases h with h | h <;> rw [h]
  · rfl
  · exact Bool.or_true _
theorem neq_self (n : Int) : (n != n) = false := by simp
end Go.Rx
namespace Go.Proofs.Ytbfjcbhpbldlcaa.Rx
open Go.Rx Go.Proofs Go.Proofs.Ytbfjcbhpbldlcaa.RxH

abbrev encAsk (R : List Rec) (S : List ByteArray) (N : List Int) (G : List Saga) : AV := .agg [.pv (encRecs R), .pv (encStrs S), .pv (encInts N), .pv (encSagas G)]
abbrev askV (R : List Rec) (S : List ByteArray) (N : List Int) (G : List Saga) : Blk := .var [.pv (encRecs R), .pv (encStrs S), .pv (encInts N), .pv (encSagas G)]
abbrev sagaV (s : Saga) : Blk := .var [.pv (pI s.id), .pv (pS s.key), .pv (pS s.body), .pv (encSteps s.steps), .pv (pI s.done), .pv (pB s.out), .pv (pB s.back), .pv (pI s.left), .pv (pI s.status)]
theorem kind_con (R : List Rec) (S : List ByteArray) (N : List Int) (G : List Saga) (h : AskOk R S N G) (k : Int) : Con P 12 [encAsk R S N G, I k] (Bl true) [] := by
  obtain ⟨hv, hheavy⟩ := heavy14_con R S N G h
  have hG := h.hG
  have hm : (G.map Saga.enc).length = G.length := List.length_map ..
  refine Con.of T_ok Try.func12 rfl (by kernel_rfl) (by kernel_rfl) (aw_of T_ok (by kernel_rfl) ?_)
  conv => whnf
  refine callS hheavy rfl ?_
  conv => whnf
  split <;> rename_i h1 <;> conv => whnf
  · exact finB ⟨rfl⟩
  refine AW.loop (fun i : Nat => i ≤ G.length) (fun i => [(1, I k), (2, .lf (.ptr 0 0)), (5, I i)]) (fun _ => [askV R S N G]) (fun i => G.length - i) [] ?_ ?_
  · exact ⟨0, Nat.zero_le _, ⟨rfl, rfl, rfl, trivial⟩, ⟨[], rfl⟩, rfl, rfl⟩
  rintro i hi
  refine aw_of T_ok (by kernel_rfl) ?_
  conv => whnf
  have wake : ∀ Q : Prop, Q → Q := fun _ h => h
  split <;> rename_i hlt <;> conv => whnf
  · have hiG : i < G.length := by have := of_decide_eq_true hlt; omega
    have hs := h.hGs _ (List.getElem_mem hiG)
    split <;> rename_i h6 <;> conv => whnf
    · refine ⟨by omega, (G[i]).enc, by simp [hiG], ?_⟩
      conv => whnf
      refine AW.loop (fun n : Int => -1 ≤ n ∧ n ≤ 6) (fun n => [(1, I k), (2, .lf (.ptr 0 0)), (5, I i), (6, .lf (.ptr 1 0)), (7, I n)]) (fun _ => [askV R S N G, sagaV G[i]]) (fun n => (6 - n).toNat) [] ?_ ?_
      · exact ⟨-1, by omega, ⟨rfl, rfl, rfl, rfl, rfl, trivial⟩, ⟨[], rfl⟩, rfl, rfl⟩
      rintro n ⟨hn1, hn2⟩
      refine aw_of T_ok (by kernel_rfl) ?_
      conv => whnf
      split <;> rename_i h5 <;> conv => whnf
      · have h5' : n ≤ 5 := of_decide_eq_true h5
        refine AW.loop (fun d : Nat => d ≤ 3) (fun d => [(1, I k), (2, .lf (.ptr 0 0)), (5, I i), (6, .lf (.ptr 1 0)), (7, I n), (8, I d)]) (fun _ => [askV R S N G, sagaV G[i]]) (fun d => 3 - d) [] ?_ ?_
        · exact ⟨0, by omega, ⟨rfl, rfl, rfl, rfl, rfl, rfl, trivial⟩, ⟨[], rfl⟩, rfl, rfl⟩
        rintro d hd
        refine aw_of T_ok (by kernel_rfl) ?_
        conv => whnf
        split <;> rename_i h3 <;> conv => whnf
        · have h3' : d < 3 := by have := of_decide_eq_true h3; omega
          obtain ⟨r, hr⟩ : ∃ r : Rec, r = ⟨k, IntKind.i64.wrap (IntKind.i64.wrap ((G[i]).id + d) - 1), n, ⟨#[]⟩, ⟨#[]⟩, []⟩ := ⟨_, rfl⟩
          have hrok : r.Ok := by rw [hr]; exact okr _ _ _
          have wr : Fa WkA [.agg [.pv (pI k), .pv (pI (IntKind.i64.wrap (IntKind.i64.wrap ((G[i]).id + d) - 1))), .pv (pI n), .pv (pS ⟨#[]⟩), .pv (pS ⟨#[]⟩), .pv (.sc (.slice none 0 0))]] [encRec r] := by
            rw [hr]; exact ⟨.inr (.inr ⟨_, _, rfl, rfl, wkE _, wkE _, wkE _, wkE _, wkE _, wkN 6, trivial⟩), trivial⟩
          cases hval : (sagaB G[i] && recB r) with
          | true =>
            rw [Bool.and_eq_true] at hval
            have ca := apply_con G[i] r hs hrok
            have cb := apply9_con G[i] r hs hrok hval.1 hval.2
            have hst := apply_steps G[i] r hs.steps.len
            have her := apply_err G[i] r
            generalize applyS G[i] r = q at ca cb hst her
            obtain ⟨x, e⟩ := q
            refine callP ca ⟨.inl rfl, wr⟩ (fun _ => rfl) ?_
            conv => whnf
            refine callS (saga9_con G[i] hs) rfl ?_
            conv => whnf
            split <;> rename_i c1 <;> conv => whnf
            · refine callW (rec9_con r hrok) wr rfl ?_
              conv => whnf
              split <;> rename_i c2 <;> conv => whnf
              · refine callP cb ⟨.inl rfl, wr⟩ (fun _ => rfl) ?_
                conv => whnf
                refine callS (num_con e her) rfl ?_
                conv => whnf
                split <;> rename_i c3 <;> conv => whnf
                · have c3' : (e != e) = true := c3
                  rw [neq_self] at c3'; cases c3'
                · refine callS (eqSaga_con x x hst) rfl ?_
                  conv => whnf
                  split <;> rename_i c4 <;> conv => whnf
                  · simp at c4
                  · exact ⟨d + 1, ⟨by omega, by omega⟩, ⟨rfl, rfl, rfl, rfl, rfl, congrArg Go.Rx.I (wrapI (by omega)), trivial⟩, ⟨_, rfl⟩, rfl, rfl⟩
              · rw [hval.2] at c2; cases c2
            · rw [hval.1] at c1; cases c1
          | false =>
            have ca := apply_con G[i] r hs hrok
            rw [apply_form hval] at ca
            refine callP ca ⟨.inl rfl, wr⟩ (fun _ => rfl) ?_
            conv => whnf
            refine callS (saga9_con G[i] hs) rfl ?_
            conv => whnf
            split <;> rename_i c1 <;> conv => whnf
            · refine callW (rec9_con r hrok) wr rfl ?_
              conv => whnf
              split <;> rename_i c2 <;> conv => whnf
              · rw [c1, c2] at hval; cases hval
              · refine callS (num_con 1 (by omega)) rfl ?_
                conv => whnf
                refine callW (eqSaga_con zS zS (by decide)) ⟨.inl rfl, .inr (.inr ⟨_, _, rfl, rfl, wkE _, wkE _, wkE _, wkN 6, wkE _, wkE _, wkE _, wkE _, wkE _, trivial⟩), trivial⟩ rfl ?_
                conv => whnf
                exact ⟨d + 1, ⟨by omega, by omega⟩, ⟨rfl, rfl, rfl, rfl, rfl, congrArg Go.Rx.I (wrapI (by omega)), trivial⟩, ⟨_, rfl⟩, rfl, rfl⟩
            · refine callS (num_con 1 (by omega)) rfl ?_
              conv => whnf
              refine callW (eqSaga_con zS zS (by decide)) ⟨.inl rfl, .inr (.inr ⟨_, _, rfl, rfl, wkE _, wkE _, wkE _, wkN 6, wkE _, wkE _, wkE _, wkE _, wkE _, trivial⟩), trivial⟩ rfl ?_
              conv => whnf
              exact ⟨d + 1, ⟨by omega, by omega⟩, ⟨rfl, rfl, rfl, rfl, rfl, congrArg Go.Rx.I (wrapI (by omega)), trivial⟩, ⟨_, rfl⟩, rfl, rfl⟩
        · exact ⟨n + 1, ⟨by omega, by omega⟩, ⟨rfl, rfl, rfl, rfl, congrArg Go.Rx.I (wrapI (by omega)), trivial⟩, ⟨[], rfl⟩, rfl, rfl⟩
      · exact ⟨i + 1, ⟨by omega, by omega⟩, ⟨rfl, rfl, congrArg Go.Rx.I (wrapI (by omega)), trivial⟩, ⟨_, rfl⟩, rfl, rfl⟩
    · refine callS wakes_con rfl ?_
      conv => whnf
      exact finB ⟨rfl⟩
  · refine callS wakes_con rfl ?_
    conv => whnf
    exact finB ⟨rfl⟩
end Go.Proofs.Ytbfjcbhpbldlcaa.Rx
