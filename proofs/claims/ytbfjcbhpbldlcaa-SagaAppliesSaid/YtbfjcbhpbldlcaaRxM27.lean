/- A saga that goes there, and back: the law that it is committed, or undone. -/
import Derived.Test.YtbfjcbhpbldlcaaRxM26
set_option linter.unusedVariables false
set_option linter.unusedSimpArgs false
namespace Go.Rx
def crd (k n : Int) : Rec := ⟨k, 3, n, ⟨#[]⟩, ⟨#[]⟩, []⟩
def goL (m : Nat) : List Rec := (List.range m).flatMap fun (i : Nat) => [crd 2 i, crd 3 i]
theorem goL_succ (m : Nat) : goL (m + 1) = goL m ++ [crd 2 m, crd 3 m] := by rw [goL, List.range_succ, List.flatMap_append]; simp [goL]
theorem goL_len (m : Nat) : (goL m).length = 2 * m := by
  induction m with
  | zero => rfl
  | succ m ih => rw [goL_succ, List.length_append, ih]; simp; omega
def backL (stop m : Nat) : List Rec := (List.range m).map fun (j : Nat) => crd 5 ((stop : Int) - j)
theorem backL_succ (stop m : Nat) : backL stop (m + 1) = backL stop m ++ [crd 5 ((stop : Int) - m)] := by rw [backL, List.range_succ, List.map_append]; rfl
theorem backL_len (stop m : Nat) : (backL stop m).length = m := by simp [backL]
def roadsL (n stop least : Nat) : List Rec := if stop = n then goL stop ++ [crd 6 1] else goL stop ++ [crd 2 stop, crd 4 0] ++ backL stop (stop + 1 - least) ++ [crd 6 (if 0 < least then 3 else 2)]
def runR : Saga → List Rec → Bool × Saga
  | s, [] => (true, s)
  | s, r :: l => if ((applyS s r).2 == 0 && sagaB (applyS s r).1) = true then runR (applyS s r).1 l else (false, s)
def goR (n stop least : Nat) : Bool := let q := runR (roadS n) (roadsL n stop least); q.1 && (q.2.status != 0 && (sagaB q.2 && roomI q.2 == 0))
theorem goR_all : ((List.range 5).all fun n => (List.range (n + 2)).all fun stop => (List.range (stop + 1)).all fun least => goR (n + 1) stop least) = true := by kernel_rfl
theorem goR_of {n stop least : Nat} (h1 : 1 ≤ n) (h2 : n ≤ 5) (h3 : stop ≤ n) (h4 : least ≤ stop) : goR n stop least = true := by
  have h := List.all_eq_true.1 goR_all (n - 1) (List.mem_range.2 (by omega))
  have h := List.all_eq_true.1 h stop (List.mem_range.2 (by omega))
  have h := List.all_eq_true.1 h least (List.mem_range.2 (by omega))
  rwa [Nat.sub_add_cancel h1] at h
theorem runR_go {s : Saga} {r : Rec} {l : List Rec} (h : (runR s (r :: l)).1 = true) : (applyS s r).2 = 0 ∧ sagaB (applyS s r).1 = true ∧ runR s (r :: l) = runR (applyS s r).1 l := by
  rw [runR] at h ⊢
  split at h
  · rename_i hc
    rw [if_pos hc]
    simp at hc
    exact ⟨hc.1, hc.2, rfl⟩
  · cases h
theorem apply_ok {s : Saga} {r : Rec} (h : s.Ok) : (applyS s r).1.Ok := by
  rw [applyS]; repeat' split
  all_goals first | exact zS_ok | exact next_ok h
theorem crd_ok (k n : Int) : (crd k n).Ok := okr k 3 n
/-- A record without steps, as it is built: its steps are nil. -/
abbrev crdE (r : Rec) : List PV := [pI r.kind, pI r.id, pI r.n, pS r.key, pS r.body, .sc (.slice none 0 0)]
/-- Records that go: of one saga, to an end. -/
structure Goes (n : Nat) (l : List Rec) : Prop where
  run : (runR (roadS n) l).1 = true
  st : (runR (roadS n) l).2.status ≠ 0
  may : sagaB (runR (roadS n) l).2 = true
  room : roomI (runR (roadS n) l).2 = 0
  each : ∀ r ∈ l, ∃ k m, r = crd k m
  len : l.length ≤ 1000
theorem goes_of {n stop least : Nat} (h1 : 1 ≤ n) (h2 : n ≤ 5) (h3 : stop ≤ n) (h4 : least ≤ stop) : Goes n (roadsL n stop least) := by
  have h := goR_of h1 h2 h3 h4
  unfold goR at h
  simp only [Bool.and_eq_true, bne_iff_ne, ne_eq, beq_iff_eq] at h
  have e0 : ∀ r ∈ goL stop, ∃ k m, r = crd k m := fun r hr => by
    unfold goL at hr
    simp only [List.mem_flatMap, List.mem_cons, List.not_mem_nil, or_false] at hr
    obtain ⟨i, _, h | h⟩ := hr <;> exact ⟨_, _, h⟩
  refine ⟨h.1, h.2.1, h.2.2.1, h.2.2.2, fun r hr => ?_, by unfold roadsL; split <;> simp [goL_len, backL_len] <;> omega⟩
  unfold roadsL at hr
  split at hr
  · simp only [List.mem_append, List.mem_cons, List.not_mem_nil, or_false] at hr
    rcases hr with hr | hr
    · exact e0 r hr
    · exact ⟨_, _, hr⟩
  · simp only [List.mem_append, List.mem_cons, List.not_mem_nil, or_false] at hr
    rcases hr with ((hr | hr | hr) | hr) | hr
    · exact e0 r hr
    · exact ⟨_, _, hr⟩
    · exact ⟨_, _, hr⟩
    · unfold backL at hr
      obtain ⟨j, _, rfl⟩ := List.mem_map.1 hr
      exact ⟨_, _, rfl⟩
    · exact ⟨_, _, hr⟩
end Go.Rx
namespace Go.Proofs.Ytbfjcbhpbldlcaa.Rx
open Go.Rx Go.Proofs Go.Proofs.Ytbfjcbhpbldlcaa.RxH

set_option maxHeartbeats 1000000 in
theorem sagaRoads_con (R : List Rec) (S : List ByteArray) (N : List Int) (G : List Saga) (h : AskOk R S N G) : Con P 9 [encAsk R S N G] (Bl true) [] := by
  have hG : (G.map Saga.enc).length = G.length := List.length_map ..
  have hGl := h.hG
  refine Con.of T_ok Try.func9 rfl (by kernel_rfl) (by kernel_rfl) (aw_of T_ok (by kernel_rfl) ?_)
  conv => whnf
  refine AW.loop (fun n : Nat => 1 ≤ n ∧ n ≤ 6) (fun n => [(1, .lf (.ptr 0 0)), (3, Go.Rx.I n)]) (fun _ => [askV R S N G]) (fun n => 6 - n) [] ?_ ?_
  · exact ⟨1, by omega, ⟨rfl, rfl, trivial⟩, ⟨[], rfl⟩, rfl, rfl⟩
  rintro n ⟨hn1, hn6⟩
  refine aw_of T_ok (by kernel_rfl) ?_
  conv => whnf
  split <;> rename_i hlt <;> conv => whnf
  rotate_left
  · refine callS wakes_con rfl ?_
    conv => whnf
    exact finB ⟨rfl⟩
  have hn5 : n ≤ 5 := by have := of_decide_eq_true hlt; omega
  refine AW.loop (fun stop : Nat => stop ≤ n + 1) (fun stop => [(1, .lf (.ptr 0 0)), (3, Go.Rx.I n), (4, Go.Rx.I stop)]) (fun _ => [askV R S N G]) (fun stop => n + 1 - stop) [] ?_ ?_
  · exact ⟨0, by omega, ⟨rfl, rfl, rfl, trivial⟩, ⟨[], rfl⟩, rfl, rfl⟩
  rintro stop hs
  refine aw_ofC T_ok 1013 (by kernel_rfl) ?_
  conv => whnf
  split <;> rename_i hlt2 <;> conv => whnf
  rotate_left
  · exact ⟨n + 1, ⟨by omega, by omega⟩, ⟨rfl, congrArg Go.Rx.I (wrapI (by omega)), trivial⟩, ⟨[], rfl⟩, rfl, rfl⟩
  have hsn : stop ≤ n := by have := of_decide_eq_true hlt2; omega
  refine callU (road_con n hn5) (fun _ => rfl) ?_
  conv => whnf
  refine AW.loop (fun i : Nat => i ≤ stop) (fun i => [(1, .lf (.ptr 0 0)), (3, Go.Rx.I n), (4, Go.Rx.I stop), (5, .lf (.ptr 1 0)), (6, .lf (.own 2 (2 * i))), (7, Go.Rx.I i)]) (fun i => [askV R S N G, sagaV (roadS n), .arr 44 6 ((goL i).map crdE)]) (fun i => stop - i) [.slot 6 44 6] ?_ ?_
  · exact ⟨rfl, 0, by omega, ⟨rfl, rfl, rfl, rfl, rfl, rfl, trivial⟩, ⟨[], rfl⟩, rfl, rfl⟩
  rintro i hi
  refine aw_of T_ok (by kernel_rfl) ?_
  conv => whnf
  split <;> rename_i hlt3 <;> conv => whnf
  · have his : i < stop := by have := of_decide_eq_true hlt3; omega
    refine ⟨rfl, _, .inl rfl, ?_⟩
    conv => whnf
    refine ⟨by rw [List.length_map, goL_len], by show (2 * i + 2) * 80 ≤ _; omega, ?_⟩
    conv => whnf
    refine ⟨i + 1, ⟨by omega, by omega⟩, ⟨rfl, rfl, rfl, rfl, rfl, congrArg Go.Rx.I (wrapI (by omega)), trivial⟩, ⟨[?r], ?e⟩, rfl, rfl⟩
    case e =>
      show _ = [askV R S N G, sagaV (roadS n), Blk.arr _ _ ((goL (i + 1)).map crdE)] ++ [_]
      rw [goL_succ, List.map_append]; rfl
  have his : i = stop := by have := of_decide_eq_false hlt3; omega
  subst his
  refine AW.cut (Goes n) (fun l => [(1, .lf (.ptr 0 0)), (3, Go.Rx.I n), (4, Go.Rx.I i), (5, .lf (.ptr 1 0)), (6, .lf (.own 2 l.length))]) (fun l => [askV R S N G, sagaV (roadS n), .arr 44 6 (l.map crdE)]) [] (aw_of T_ok (by kernel_rfl) ?_) ?_
  · conv => whnf
    split <;> rename_i hsn2 <;> conv => whnf
    · have en : i = n := by have := eq_of_beq hsn2; omega
      refine ⟨rfl, _, .inl rfl, ?_⟩
      conv => whnf
      refine ⟨by rw [List.length_map, goL_len], by show (2 * i + 1) * 80 ≤ _; omega, ?_⟩
      conv => whnf
      have hg := goes_of hn1 hn5 hsn (Nat.zero_le i)
      rw [roadsL, if_pos en] at hg
      refine ⟨_, hg, ⟨rfl, rfl, rfl, rfl, ?_, trivial⟩, ⟨[?r2], ?e2⟩, rfl, rfl⟩
      · rw [List.length_append, goL_len]; rfl
      case e2 =>
        show _ = [askV R S N G, sagaV (roadS n), Blk.arr _ _ ((goL i ++ [crd 6 1]).map crdE)] ++ [_]
        rw [List.map_append]; rfl
    have en : ¬ i = n := fun e => by rw [show ((i : Int) == n) = true from by rw [e]; exact beq_self_eq_true _] at hsn2; cases hsn2
    refine ⟨rfl, _, .inl rfl, ?_⟩
    conv => whnf
    refine ⟨by rw [List.length_map, goL_len], by show (2 * i + 2) * 80 ≤ _; omega, ?_⟩
    conv => whnf
    obtain ⟨least, hleast⟩ : ∃ least : Nat, least = (n + G.length) % (i + 1) := ⟨_, rfl⟩
    have hll : least ≤ i := by have := Nat.mod_lt (n + G.length) (show 0 < i + 1 by omega); omega
    have w1 : IntKind.i64.wrap ((n : Int) + ((G.map Saga.enc).length : Nat)) = ((n + G.length : Nat) : Int) := by rw [hG, wrapI (by omega)]; rfl
    have w2 : IntKind.i64.wrap ((i : Int) + 1) = ((i + 1 : Nat) : Int) := by rw [wrapI (by omega)]; rfl
    rw [w1, w2, show ((n + G.length : Nat) : Int) % ((i + 1 : Nat) : Int) = (least : Int) by rw [hleast]; rfl]
    refine ⟨by omega, by omega, by omega, ?_⟩
    conv => whnf
    refine AW.loop (fun m : Nat => m ≤ i + 1 - least) (fun m => [(1, .lf (.ptr 0 0)), (3, Go.Rx.I n), (4, Go.Rx.I i), (5, .lf (.ptr 1 0)), (6, .lf (.own 2 (2 * i + 2 + m))), (8, Go.Rx.I least), (9, Go.Rx.I ((i : Int) - m))])
      (fun m => [askV R S N G, sagaV (roadS n), .arr 44 6 ((goL i ++ [crd 2 i, crd 4 0] ++ backL i m).map crdE)]) (fun m => i + 1 - least - m) [] ?_ ?_
    · refine ⟨0, by omega, ⟨rfl, rfl, rfl, rfl, rfl, rfl, congrArg Go.Rx.I (show (i : Int) = (i : Int) - (0 : Nat) by omega), trivial⟩, ⟨[?r3], ?e3⟩, rfl, rfl⟩
      case e3 =>
        show _ = [askV R S N G, sagaV (roadS n), Blk.arr _ _ ((goL i ++ [crd 2 i, crd 4 0] ++ backL i 0).map crdE)] ++ [_]
        rw [List.map_append, List.map_append, show backL i 0 = [] from rfl, List.map_nil, List.append_nil]; rfl
    rintro m hm
    refine aw_of T_ok (by kernel_rfl) ?_
    conv => whnf
    split <;> rename_i hlt4 <;> conv => whnf
    · have hml : (least : Int) ≤ (i : Int) - m := of_decide_eq_true hlt4
      refine ⟨rfl, _, .inl rfl, ?_⟩
      conv => whnf
      refine ⟨by simp [goL_len, backL_len]; omega, by show (2 * i + 2 + m + 1) * 80 ≤ _; omega, ?_⟩
      conv => whnf
      refine ⟨m + 1, ⟨by omega, by omega⟩, ⟨rfl, rfl, rfl, rfl, rfl, rfl, congrArg Go.Rx.I (show IntKind.i64.wrap ((i : Int) - m - 1) = (i : Int) - ((m + 1 : Nat) : Int) by rw [wrapI (by omega)]; omega), trivial⟩, ⟨[?r4], ?e4⟩, rfl, rfl⟩
      case e4 =>
        have em : (goL i ++ [crd 2 i, crd 4 0] ++ backL i (m + 1)).map crdE = (goL i ++ [crd 2 i, crd 4 0] ++ backL i m).map crdE ++ [crdE (crd 5 ((i : Int) - m))] := by rw [backL_succ, ← List.append_assoc, List.map_append]; rfl
        show _ = [askV R S N G, sagaV (roadS n), Blk.arr _ _ ((goL i ++ [crd 2 i, crd 4 0] ++ backL i (m + 1)).map crdE)] ++ [_]
        rw [em]; rfl
    have hml : ¬ (least : Int) ≤ (i : Int) - m := of_decide_eq_false hlt4
    have hme : m = i + 1 - least := by omega
    have hg := goes_of hn1 hn5 hsn hll
    rw [roadsL, if_neg en, ← hme] at hg
    split <;> rename_i hl0 <;> conv => whnf
    · have hl1 : 0 < least := by have := of_decide_eq_true hl0; omega
      rw [if_pos hl1] at hg
      refine ⟨rfl, _, .inl rfl, ?_⟩
      conv => whnf
      refine ⟨by simp [goL_len, backL_len]; omega, by show (2 * i + 2 + m + 1) * 80 ≤ _; omega, ?_⟩
      conv => whnf
      refine ⟨_, hg, ⟨rfl, rfl, rfl, rfl, ?_, trivial⟩, ⟨[?r5], ?e5⟩, rfl, rfl⟩
      · refine congrArg (fun k => AV.lf (Lf.own 2 k)) ?_
        simp [goL_len, backL_len, chunk]
        omega
      case e5 =>
        have em : (goL i ++ [crd 2 i, crd 4 0] ++ backL i m ++ [crd 6 3]).map crdE = (goL i ++ [crd 2 i, crd 4 0] ++ backL i m).map crdE ++ [crdE (crd 6 3)] := List.map_append
        show _ = [askV R S N G, sagaV (roadS n), Blk.arr _ _ ((goL i ++ [crd 2 i, crd 4 0] ++ backL i m ++ [crd 6 3]).map crdE)] ++ [_]
        rw [em]; rfl
    · have hl1 : ¬ 0 < least := by have := of_decide_eq_false hl0; omega
      rw [if_neg hl1] at hg
      refine ⟨rfl, _, .inl rfl, ?_⟩
      conv => whnf
      refine ⟨by simp [goL_len, backL_len]; omega, by show (2 * i + 2 + m + 1) * 80 ≤ _; omega, ?_⟩
      conv => whnf
      refine ⟨_, hg, ⟨rfl, rfl, rfl, rfl, ?_, trivial⟩, ⟨[?r6], ?e6⟩, rfl, rfl⟩
      · refine congrArg (fun k => AV.lf (Lf.own 2 k)) ?_
        simp [goL_len, backL_len, chunk]
        omega
      case e6 =>
        have em : (goL i ++ [crd 2 i, crd 4 0] ++ backL i m ++ [crd 6 2]).map crdE = (goL i ++ [crd 2 i, crd 4 0] ++ backL i m).map crdE ++ [crdE (crd 6 2)] := List.map_append
        show _ = [askV R S N G, sagaV (roadS n), Blk.arr _ _ ((goL i ++ [crd 2 i, crd 4 0] ++ backL i m ++ [crd 6 2]).map crdE)] ++ [_]
        rw [em]; rfl
  · rintro l hl
    have hlen := hl.len
    refine aw_of T_ok (by kernel_rfl) ?_
    conv => whnf
    refine AW.loop (fun p : Nat × Saga => p.1 ≤ l.length ∧ p.2.Ok ∧ runR p.2 (l.drop p.1) = runR (roadS n) l) (fun p => [(1, .lf (.ptr 0 0)), (3, Go.Rx.I n), (4, Go.Rx.I i), (5, .lf (.ptr 1 0)), (6, .lf (.own 2 l.length)), (10, Go.Rx.I p.1)])
      (fun p => [askV R S N G, sagaV p.2, .arr 44 6 (l.map crdE)]) (fun p => l.length - p.1) [] ?_ ?_
    · exact ⟨(0, roadS n), ⟨Nat.zero_le _, road_ok n hn5, rfl⟩, ⟨rfl, rfl, rfl, rfl, rfl, rfl, trivial⟩, ⟨[], rfl⟩, rfl, rfl⟩
    rintro ⟨k, s⟩ ⟨hk, hok, hrun⟩
    simp only at hk hok hrun
    rcases Nat.lt_or_ge k l.length with hkl | hkl
    · obtain ⟨a, b, hab⟩ := hl.each _ (List.getElem_mem hkl)
      have wl : WkL (.pv (.sc (.slice none 0 0))) (.pv (encSteps (l[k]).steps)) := by rw [hab]; exact wkN 6
      have hrokk : (l[k]).Ok := by rw [hab]; exact crd_ok _ _
      rw [List.drop_eq_getElem_cons hkl] at hrun
      obtain ⟨he, hB2, hgo⟩ := runR_go (by rw [hrun]; exact hl.run)
      rw [hgo] at hrun
      have ca := apply_con s l[k] hok hrokk
      have hxok := apply_ok (r := l[k]) hok
      have cc := check_con (applyS s l[k]).1 hxok
      rw [hB2, if_pos rfl] at cc
      have hrow : (l.map crdE)[k]? = some (crdE l[k]) := by simp [hkl]
      generalize l[k] = r at *
      generalize applyS s r = q at *
      obtain ⟨x, e⟩ := q
      simp only at he hB2 hxok hrun
      subst he
      refine aw_of T_ok (by kernel_rfl) ?_
      conv => whnf
      refine ⟨List.length_map .., ?_⟩
      conv => whnf
      split <;> rename_i hlt5 <;> conv => whnf
      rotate_left
      · have := of_decide_eq_false hlt5; simp only at this; omega
      refine AW.draw T_ok rfl (.one 0 (.one 1 (.one 2 (.one 3 (.one 4 (.two 5 (listPl [6, 7, 8, 9, 10, 11]) 9 (listPl [5, 6, 7, 8, 10, 11]))))))) (by kernel_rfl) (by kernel_rfl) ?_
      conv => whnf
      refine ⟨List.length_map .., by omega, by show (k : Int) < l.length; omega, ?_⟩
      conv => whnf
      refine ⟨rfl, List.length_map .., crdE r, hrow, ?_⟩
      conv => whnf
      refine ⟨?_, ?_⟩ <;> conv => whnf
      all_goals
        refine callP ca ⟨.inl rfl, .inr (.inr ⟨_, _, rfl, rfl, wkE _, wkE _, wkE _, wkE _, wkE _, wl, trivial⟩), trivial⟩ (fun _ => rfl) ?_
        conv => whnf
        refine callS (num_con 0 (by decide)) rfl ?_
        conv => whnf
        refine callS cc rfl ?_
        conv => whnf
        refine callS (num_con 0 (by decide)) rfl ?_
        conv => whnf
        exact ⟨(k + 1, x), ⟨⟨by omega, hxok, hrun⟩, by simp only; omega⟩, ⟨rfl, rfl, rfl, rfl, rfl, congrArg Go.Rx.I (wrapI (by simp only; omega)), trivial⟩, ⟨_, rfl⟩, rfl, rfl⟩
    · have hke : k = l.length := by omega
      have hs : s = (runR (roadS n) l).2 := by rw [← hrun, hke, List.drop_length, runR]
      have cn := need_con s hok
      rw [needP, if_pos (by rw [hs]; exact hl.may), show roomI s = 0 by rw [hs]; exact hl.room] at cn
      have hst : (s.status == 0) = false := by rw [hs]; exact beq_eq_false_iff_ne.2 hl.st
      refine aw_of T_ok (by kernel_rfl) ?_
      conv => whnf
      refine ⟨List.length_map .., ?_⟩
      conv => whnf
      split <;> rename_i hlt5 <;> conv => whnf
      · have := of_decide_eq_true hlt5; simp only at this; omega
      split <;> rename_i h6 <;> conv => whnf
      · rw [show (s.status == 0) = true from h6] at hst; cases hst
      refine callS cn rfl ?_
      conv => whnf
      refine callS (num_con 0 (by decide)) rfl ?_
      conv => whnf
      exact ⟨i + 1, ⟨by omega, by omega⟩, ⟨rfl, rfl, congrArg Go.Rx.I (wrapI (by omega)), trivial⟩, ⟨_, rfl⟩, rfl, rfl⟩
end Go.Proofs.Ytbfjcbhpbldlcaa.Rx
