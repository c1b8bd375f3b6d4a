/- Behind each record of a saga that goes there and back: marks and needs. -/
import Derived.Test.YtbfjcbhpbldlcaaRxM25
set_option linter.unusedVariables false
set_option linter.unusedSimpArgs false
namespace Go.Rx
/-- The record that the law asks next. -/
def recM (s : Saga) (n i : Nat) : Rec :=
  if s.back then ⟨5, 3, IntKind.i64.wrap (s.left - 1), ⟨#[]⟩, ⟨#[]⟩, []⟩ else if s.out then (if n < i then ⟨4, 3, 0, ⟨#[]⟩, ⟨#[]⟩, []⟩ else ⟨3, 3, s.done, ⟨#[]⟩, ⟨#[]⟩, []⟩) else ⟨2, 3, s.done, ⟨#[]⟩, ⟨#[]⟩, []⟩
def stM (n : Nat) : Nat → Saga
  | 0 => roadS n
  | i + 1 => (apply9S (stM n i) (recM (stM n i) n i)).1
def goM (n i : Nat) : Bool := !(sagaB (stM n i)) || ((apply9S (stM n i) (recM (stM n i) n i)).2 != 0 || (i + 1 == 2 * n + 2 || sagaB (stM n (i + 1))))
theorem goM_all : ((List.range 5).all fun n => sagaB (roadS (n + 1)) && (List.range (2 * (n + 1) + 2)).all (goM (n + 1))) = true := by kernel_rfl
theorem goM_go {n i : Nat} (h1 : 1 ≤ n) (h2 : n ≤ 5) (hi : i < 2 * n + 2) (hs : sagaB (stM n i) = true) (he : (apply9S (stM n i) (recM (stM n i) n i)).2 = 0) : i + 1 = 2 * n + 2 ∨ sagaB (stM n (i + 1)) = true := by
  have := List.all_eq_true.1 goM_all (n - 1) (List.mem_range.2 (by omega))
  rw [Nat.sub_add_cancel h1, Bool.and_eq_true] at this
  have h := List.all_eq_true.1 this.2 i (List.mem_range.2 hi)
  rw [goM, hs, he] at h
  simpa using h
theorem goM_0 {n : Nat} (h1 : 1 ≤ n) (h2 : n ≤ 5) : sagaB (roadS n) = true := by
  have := List.all_eq_true.1 goM_all (n - 1) (List.mem_range.2 (by omega))
  rw [Nat.sub_add_cancel h1, Bool.and_eq_true] at this
  exact this.1
theorem next_keep (s : Saga) (r : Rec) : (nextS s r).key = s.key ∧ (nextS s r).body = s.body ∧ (nextS s r).steps = s.steps := by
  rw [nextS]; repeat' split
  all_goals exact ⟨rfl, rfl, rfl⟩
theorem next_ok {s : Saga} {r : Rec} (h : s.Ok) : (nextS s r).Ok := by
  obtain ⟨h1, h2, h3⟩ := next_keep s r
  exact ⟨by rw [h1]; exact h.key, by rw [h2]; exact h.body, by rw [h3]; exact h.steps⟩
theorem zS_ok : zS.Ok := ⟨by decide, by decide, ⟨by decide, by intro x hx; cases hx⟩⟩
theorem apply9_ok {s : Saga} {r : Rec} (h : s.Ok) : (apply9S s r).1.Ok := by
  rw [apply9S]; split
  · exact zS_ok
  split
  · exact next_ok h
  · exact zS_ok
theorem road_ok (n : Nat) (h : n ≤ 5) : (roadS n).Ok := by
  refine ⟨by show (1 : Nat) ≤ _; decide, by show (1 : Nat) ≤ _; decide, ⟨by show (roadL n).length * 80 ≤ _; rw [road_len]; omega, ?_⟩⟩
  intro x hx
  obtain ⟨i, _, rfl⟩ := List.mem_map.1 (show x ∈ (List.range n).map roadT from hx)
  exact ⟨by show (1 : Nat) ≤ _; decide, by show (4 : Nat) ≤ _; decide, by show (6 : Nat) ≤ _; decide, by show (1 : Nat) ≤ _; decide⟩
theorem stM_ok (n : Nat) (h : n ≤ 5) : ∀ i, (stM n i).Ok
  | 0 => road_ok n h
  | i + 1 => apply9_ok (stM_ok n h i)
theorem apply9_err (s : Saga) (r : Rec) : -9223372036854775808 ≤ (apply9S s r).2 ∧ (apply9S s r).2 ≤ 9223372036854775807 := by
  rw [apply9S]; repeat' split
  all_goals (simp only; omega)
theorem recM_ok (s : Saga) (n i : Nat) : (recM s n i).Ok := by
  rw [recM]; repeat' split
  all_goals exact okr _ _ _
theorem recM_kind (s : Saga) (n i : Nat) : (recM s n i).kind ≠ 6 := by
  rw [recM]; repeat' split
  all_goals (simp only; omega)
end Go.Rx
namespace Go.Proofs.Ytbfjcbhpbldlcaa.Rx
open Go.Rx Go.Proofs Go.Proofs.Ytbfjcbhpbldlcaa.RxH

set_option maxHeartbeats 400000 in
theorem sagaMarks_con (R : List Rec) (S : List ByteArray) (N : List Int) (G : List Saga) (h : AskOk R S N G) : Con P 10 [encAsk R S N G] (Bl true) [] := by
  have hR : (R.map Rec.enc).length = R.length := List.length_map ..
  have hRl := h.hR
  obtain ⟨n, hn⟩ : ∃ n : Nat, n = 1 + R.length % 5 := ⟨_, rfl⟩
  have hn1 : 1 ≤ n := by omega
  have hn2 : n ≤ 5 := by omega
  have en : IntKind.i64.wrap (1 + ((R.map Rec.enc).length : Int) % 5) = n := by rw [hR, wrapI (by omega), hn]; omega
  refine Con.of T_ok Try.func10 rfl (by kernel_rfl) (by kernel_rfl) (aw_of T_ok (by kernel_rfl) ?_)
  conv => whnf
  refine ⟨by omega, by omega, by omega, ?_⟩
  conv => whnf
  rw [en]
  refine callU (road_con n hn2) (fun _ => rfl) ?_
  conv => whnf
  refine AW.loop (fun i : Nat => i ≤ 2 * n + 2 ∧ (i = 2 * n + 2 ∨ sagaB (stM n i) = true)) (fun i => [(1, .lf (.ptr 0 0)), (3, Go.Rx.I n), (4, .lf (.ptr 1 0)), (5, Go.Rx.I i)]) (fun i => [askV R S N G, sagaV (stM n i)]) (fun i => 2 * n + 2 - i) [] ?_ ?_
  · exact ⟨0, ⟨Nat.zero_le _, .inr (goM_0 hn1 hn2)⟩, ⟨rfl, rfl, rfl, rfl, trivial⟩, ⟨[], rfl⟩, rfl, rfl⟩
  rintro i ⟨hi, hB⟩
  refine aw_of T_ok (by kernel_rfl) ?_
  conv => whnf
  rw [show IntKind.i64.wrap (IntKind.i64.wrap (2 * (n : Int)) + 2) = 2 * n + 2 by rw [wrapI (n := 2 * (n : Int)) (by omega), wrapI (by omega)]]
  split <;> rename_i hlt <;> conv => whnf
  rotate_left
  · refine callS wakes_con rfl ?_
    conv => whnf
    exact finB ⟨rfl⟩
  have hil : i < 2 * n + 2 := by have := of_decide_eq_true hlt; omega
  have hB : sagaB (stM n i) = true := by rcases hB with e | e; · omega
                                         · exact e
  have hok := stM_ok n hn2 i
  have goes := goM_go hn1 hn2 hil hB
  have hst : stM n (i + 1) = (apply9S (stM n i) (recM (stM n i) n i)).1 := rfl
  have ca0 := apply9_con' (stM n i) (recM (stM n i) n i) hok (fun e => absurd e (recM_kind (stM n i) n i))
  generalize hr : recM (stM n i) n i = r at goes hst ca0
  generalize apply9S (stM n i) r = q at goes hst ca0
  generalize stM n i = s at hB hok ca0 hr
  obtain ⟨x, e⟩ := q
  have hx : x = stM n (i + 1) := hst.symm
  subst hx
  clear hst
  have hlen := hok.steps.len
  have hml : (marksL s).length * 16 ≤ 140737488351232 := by rw [marksL, List.length_map, List.length_range]; omega
  have cm := marks_con s hok
  rw [marksP, if_pos hB] at cm
  refine callU cm (fun _ => rfl) ?_
  conv => whnf
  have cn := need_con s hok
  rw [needP, if_pos hB] at cn
  refine callS cn rfl ?_
  conv => whnf
  refine callS (num_con 0 (by decide)) rfl ?_
  conv => whnf
  refine callS (num_con 0 (by decide)) rfl ?_
  conv => whnf
  refine callU (marks9_con s hok) (fun _ => rfl) ?_
  conv => whnf
  have ce := eqStrings_con (marksL s) (marksL s) hml
  rw [decide_eq_true rfl] at ce
  refine callS ce rfl ?_
  conv => whnf
  refine callS (need9_con s) rfl ?_
  conv => whnf
  split <;> rename_i hne <;> conv => whnf
  · rw [show (roomI s != roomI s) = false from neq_self _] at hne; cases hne
  clear hne ce cn cm
  obtain ⟨id, key, body, steps, done, out, back, left, status⟩ := s
  cases out <;> conv => whnf
  · cases back <;> conv => whnf
    · have e1 : recM (⟨id, key, body, steps, done, false, false, left, status⟩ : Saga) n i = ⟨2, 3, done, ⟨#[]⟩, ⟨#[]⟩, []⟩ := rfl
      have e2 := hr.symm.trans e1
      clear hr e1
      subst e2
      refine callP ca0 ⟨.inl rfl, .inr (.inr ⟨_, _, rfl, rfl, wkE _, wkE _, wkE _, wkE _, wkE _, wkN 6, trivial⟩), trivial⟩ (fun _ => rfl) ?_
      conv => whnf
      split <;> rename_i he <;> conv => whnf
      · refine callS wakes_con rfl ?_
        conv => whnf
        exact finB ⟨rfl⟩
      · have he' : e = 0 := by simpa using he
        exact ⟨i + 1, ⟨⟨by omega, goes he'⟩, by omega⟩, ⟨rfl, rfl, rfl, congrArg Go.Rx.I (wrapI (by omega)), trivial⟩, ⟨_, rfl⟩, rfl, rfl⟩
    · have e1 : recM (⟨id, key, body, steps, done, false, true, left, status⟩ : Saga) n i = ⟨5, 3, IntKind.i64.wrap (left - 1), ⟨#[]⟩, ⟨#[]⟩, []⟩ := rfl
      have e2 := hr.symm.trans e1
      clear hr e1
      subst e2
      refine callP ca0 ⟨.inl rfl, .inr (.inr ⟨_, _, rfl, rfl, wkE _, wkE _, wkE _, wkE _, wkE _, wkN 6, trivial⟩), trivial⟩ (fun _ => rfl) ?_
      conv => whnf
      split <;> rename_i he <;> conv => whnf
      · refine callS wakes_con rfl ?_
        conv => whnf
        exact finB ⟨rfl⟩
      · have he' : e = 0 := by simpa using he
        exact ⟨i + 1, ⟨⟨by omega, goes he'⟩, by omega⟩, ⟨rfl, rfl, rfl, congrArg Go.Rx.I (wrapI (by omega)), trivial⟩, ⟨_, rfl⟩, rfl, rfl⟩
  · split <;> rename_i hgt <;> conv => whnf
    · have hgt' : n < i := by have := of_decide_eq_true hgt; omega
      cases back <;> conv => whnf
      · have e1 : recM (⟨id, key, body, steps, done, true, false, left, status⟩ : Saga) n i = ⟨4, 3, 0, ⟨#[]⟩, ⟨#[]⟩, []⟩ := if_pos hgt'
        have e2 := hr.symm.trans e1
        clear hr e1
        subst e2
        refine callP ca0 ⟨.inl rfl, .inr (.inr ⟨_, _, rfl, rfl, wkE _, wkE _, wkE _, wkE _, wkE _, wkN 6, trivial⟩), trivial⟩ (fun _ => rfl) ?_
        conv => whnf
        split <;> rename_i he <;> conv => whnf
        · refine callS wakes_con rfl ?_
          conv => whnf
          exact finB ⟨rfl⟩
        · have he' : e = 0 := by simpa using he
          exact ⟨i + 1, ⟨⟨by omega, goes he'⟩, by omega⟩, ⟨rfl, rfl, rfl, congrArg Go.Rx.I (wrapI (by omega)), trivial⟩, ⟨_, rfl⟩, rfl, rfl⟩
      · have e1 : recM (⟨id, key, body, steps, done, true, true, left, status⟩ : Saga) n i = ⟨5, 3, IntKind.i64.wrap (left - 1), ⟨#[]⟩, ⟨#[]⟩, []⟩ := rfl
        have e2 := hr.symm.trans e1
        clear hr e1
        subst e2
        refine callP ca0 ⟨.inl rfl, .inr (.inr ⟨_, _, rfl, rfl, wkE _, wkE _, wkE _, wkE _, wkE _, wkN 6, trivial⟩), trivial⟩ (fun _ => rfl) ?_
        conv => whnf
        split <;> rename_i he <;> conv => whnf
        · refine callS wakes_con rfl ?_
          conv => whnf
          exact finB ⟨rfl⟩
        · have he' : e = 0 := by simpa using he
          exact ⟨i + 1, ⟨⟨by omega, goes he'⟩, by omega⟩, ⟨rfl, rfl, rfl, congrArg Go.Rx.I (wrapI (by omega)), trivial⟩, ⟨_, rfl⟩, rfl, rfl⟩
    · have hgt' : ¬ n < i := by have := of_decide_eq_false hgt; omega
      cases back <;> conv => whnf
      · have e1 : recM (⟨id, key, body, steps, done, true, false, left, status⟩ : Saga) n i = ⟨3, 3, done, ⟨#[]⟩, ⟨#[]⟩, []⟩ := if_neg hgt'
        have e2 := hr.symm.trans e1
        clear hr e1
        subst e2
        refine callP ca0 ⟨.inl rfl, .inr (.inr ⟨_, _, rfl, rfl, wkE _, wkE _, wkE _, wkE _, wkE _, wkN 6, trivial⟩), trivial⟩ (fun _ => rfl) ?_
        conv => whnf
        split <;> rename_i he <;> conv => whnf
        · refine callS wakes_con rfl ?_
          conv => whnf
          exact finB ⟨rfl⟩
        · have he' : e = 0 := by simpa using he
          exact ⟨i + 1, ⟨⟨by omega, goes he'⟩, by omega⟩, ⟨rfl, rfl, rfl, congrArg Go.Rx.I (wrapI (by omega)), trivial⟩, ⟨_, rfl⟩, rfl, rfl⟩
      · have e1 : recM (⟨id, key, body, steps, done, true, true, left, status⟩ : Saga) n i = ⟨5, 3, IntKind.i64.wrap (left - 1), ⟨#[]⟩, ⟨#[]⟩, []⟩ := rfl
        have e2 := hr.symm.trans e1
        clear hr e1
        subst e2
        refine callP ca0 ⟨.inl rfl, .inr (.inr ⟨_, _, rfl, rfl, wkE _, wkE _, wkE _, wkE _, wkE _, wkN 6, trivial⟩), trivial⟩ (fun _ => rfl) ?_
        conv => whnf
        split <;> rename_i he <;> conv => whnf
        · refine callS wakes_con rfl ?_
          conv => whnf
          exact finB ⟨rfl⟩
        · have he' : e = 0 := by simpa using he
          exact ⟨i + 1, ⟨⟨by omega, goes he'⟩, by omega⟩, ⟨rfl, rfl, rfl, congrArg Go.Rx.I (wrapI (by omega)), trivial⟩, ⟨_, rfl⟩, rfl, rfl⟩
end Go.Proofs.Ytbfjcbhpbldlcaa.Rx
