/- All records of a saga's number, behind those of a script. -/
import Derived.Test.YtbfjcbhpbldlcaaRxM27
set_option linter.unusedVariables false
set_option linter.unusedSimpArgs false
namespace Go.Rx
def recK (id k n : Int) : Rec := ⟨k, id, n, ⟨#[]⟩, ⟨#[]⟩, []⟩
def kindL (id : Int) (a m : Nat) : List Rec := (List.range m).map fun (n : Nat) => recK id ((a + 2 : Nat) : Int) n
def exL (id : Int) (m : Nat) : List Rec := (List.range m).flatMap fun a => kindL id a 5
def recsL (R : List Rec) (id : Int) : List Rec := R.take 6 ++ exL id 5
theorem kindL_succ (id : Int) (a m : Nat) : kindL id a (m + 1) = kindL id a m ++ [recK id ((a + 2 : Nat) : Int) m] := by rw [kindL, List.range_succ, List.map_append]; rfl
theorem kindL_len (id : Int) (a m : Nat) : (kindL id a m).length = m := by simp [kindL]
theorem exL_succ (id : Int) (m : Nat) : exL id (m + 1) = exL id m ++ kindL id m 5 := by rw [exL, List.range_succ, List.flatMap_append]; simp [exL]
theorem exL_len (id : Int) (m : Nat) : (exL id m).length = 5 * m := by
  induction m with
  | zero => rfl
  | succ m ih => rw [exL_succ, List.length_append, ih, kindL_len]; omega
theorem exL_mem {id : Int} {m : Nat} {r : Rec} (h : r ∈ exL id m) : ∃ k n, r = recK id k n := by
  unfold exL at h
  simp only [List.mem_flatMap] at h
  obtain ⟨a, _, h⟩ := h
  obtain ⟨n, _, rfl⟩ := List.mem_map.1 h
  exact ⟨_, _, rfl⟩
theorem recK_ok (id k n : Int) : (recK id k n).Ok := okr k id n
theorem fa_mem {α β : Type} {R : β → β → Prop} {f g : α → β} : ∀ {l : List α}, (∀ a ∈ l, R (f a) (g a)) → Fa R (l.map f) (l.map g)
  | [], _ => trivial
  | a :: l, h => ⟨h a (by simp), fa_mem fun b hb => h b (by simp [hb])⟩
theorem ex_rows (id : Int) (m : Nat) : Fa (Fa WkP) ((exL id m).map crdE) ((exL id m).map Rec.enc) := fa_mem fun r hr => by
  obtain ⟨k, n, rfl⟩ := exL_mem hr
  exact ⟨wkPE _, wkPE _, wkPE _, wkPE _, wkPE _, wkPN 6, trivial⟩
theorem recs_rows (R : List Rec) (id : Int) : Fa (Fa WkP) ((R.take 6).map Rec.enc ++ (exL id 5).map crdE) ((recsL R id).map Rec.enc) := by
  rw [recsL, List.map_append]
  exact Fa.append (fa_refl (fa_refl wkPE) _) (ex_rows id 5)
theorem recs_len (R : List Rec) (id : Int) : (recsL R id).length ≤ 31 ∧ 25 ≤ (recsL R id).length := by
  rw [recsL, List.length_append, exL_len, List.length_take]; omega
theorem recs_ok {R : List Rec} (h : ∀ r ∈ R, r.Ok) (id : Int) : ∀ r ∈ recsL R id, r.Ok := fun r hr => by
  rw [recsL, List.mem_append] at hr
  rcases hr with hr | hr
  · exact h r (List.mem_of_mem_take hr)
  · obtain ⟨k, n, rfl⟩ := exL_mem hr
    exact recK_ok id k n
end Go.Rx
namespace Go.Proofs.Ytbfjcbhpbldlcaa.Rx
open Go.Rx Go.Proofs Go.Proofs.Ytbfjcbhpbldlcaa.RxH

theorem copyRec_con (r : Rec) (h : r.Ok) : Con P 29 [encRec r] (encRec r) [] := by
  refine Con.of T_ok Try.func29 rfl (by kernel_rfl) (by kernel_rfl) (aw_of T_ok (by kernel_rfl) ?_)
  conv => whnf
  refine callU (copySteps_con _ h.steps.len) (fun _ => rfl) ?_
  conv => whnf
  exact finA ⟨rfl⟩
theorem copyRecsO_con (l : List Rec) (hl : l.length * 80 ≤ 140737488351232) (hr : ∀ r ∈ l, r.Ok) : Con P 39 [.lf (.pv (encRecs l))] (.lf (.own 0 l.length)) [.arr 44 6 (l.map Rec.enc)] := by
  refine ConG.con (ConG.of T_ok Try.func39 rfl (by kernel_rfl) (by kernel_rfl) (aw_of T_ok (by kernel_rfl) ?_)) rfl
  conv => whnf
  refine AW.loop (fun k : Nat => k ≤ l.length) (fun k => [(0, .lf (.pv (encRecs l))), (3, .lf (.own 0 k)), (4, Go.Rx.I k)]) (fun k => [.arr 44 6 ((l.take k).map Rec.enc)]) (fun k => l.length - k) [.slot 3 44 6] ?_ ?_
  · exact ⟨rfl, 0, Nat.zero_le _, ⟨rfl, rfl, rfl, trivial⟩, ⟨[], rfl⟩, rfl, rfl⟩
  · intro k hk
    refine aw_of T_ok (by kernel_rfl) ?_
    conv => whnf
    split <;> rename_i hlt <;> conv => whnf
    · have hkl : k < l.length := by simp at hlt; omega
      refine ⟨by omega, (l[k]).enc, by simp [hkl], ?_⟩
      conv => whnf
      refine callU (copyRec_con l[k] (hr _ (List.getElem_mem hkl))) (fun _ => rfl) ?_
      conv => whnf
      refine ⟨rfl, _, .inl rfl, ?_⟩
      conv => whnf
      refine ⟨by simp; omega, by show (k + 1) * 80 ≤ _; omega, ?_⟩
      conv => whnf
      refine ⟨k + 1, ⟨by omega, by omega⟩, ⟨rfl, rfl, congrArg Go.Rx.I (wrapI (by omega)), trivial⟩, ⟨[?r], ?e⟩, rfl, rfl⟩
      case e => show _ = [Blk.arr _ _ (List.map Rec.enc (l.take (k + 1)))] ++ [_]; rw [take_succ' hkl, List.map_append]; rfl
    · have hkl : k = l.length := by simp at hlt; omega
      subst hkl
      refine ⟨[], [0], [.lf (.own 0 l.length)], [.lf (.own 0 l.length)], rfl, ?_, rfl, wk_refl _, rfl⟩
      show some [Blk.arr _ 6 ((l.take l.length).map Rec.enc)] = _
      rw [List.take_length]
set_option maxHeartbeats 2000000 in
theorem records_con (R : List Rec) (S : List ByteArray) (N : List Int) (G : List Saga) (h : AskOk R S N G) (id : Int) : Con P 16 [encAsk R S N G, I id] (.lf (.pv (encRecs (recsL R id)))) [] := by
  have hRm : (R.map Rec.enc).length = R.length := List.length_map ..
  have hRl := h.hR
  refine Con.of T_ok Try.func16 rfl (by kernel_rfl) (by kernel_rfl) (aw_of T_ok (by kernel_rfl) ?_)
  conv => whnf
  refine ⟨_, _, _, wk_refl _, copyRecsO_con R h.hR h.hRs, .inr ?_⟩
  conv => whnf
  refine ⟨hRm, ?_⟩
  conv => whnf
  split <;> rename_i h6 <;> conv => whnf
  · have h6' : 6 < R.length := by have := of_decide_eq_true h6; omega
    refine .inl ?_
    conv => whnf
    refine ⟨hRm, by decide, by show (6 : Int) ≤ (R.length : Int); omega, ?_⟩
    conv => whnf
    have hbase : ((R.map Rec.enc).take 6).length = 6 := by rw [List.length_take, hRm]; omega
    have hbl : (R.map Rec.enc).take 6 = (R.take 6).map Rec.enc := List.map_take.symm
    refine AW.loop (fun a : Nat => a ≤ 5) (fun a => [(1, Go.Rx.I id), (2, .lf (.ptr 0 0)), (5, .lf (.own 2 (6 + 5 * a))), (6, Go.Rx.I ((a + 2 : Nat) : Int))]) (fun a => [askV R S N G, .lost 6 (R.map Rec.enc ++ [[]]), .arr 44 6 ((R.map Rec.enc).take 6 ++ (exL id a).map crdE)]) (fun a => 5 - a) [] ?_ ?_
    · exact ⟨0, by omega, ⟨rfl, rfl, rfl, rfl, trivial⟩, ⟨[], by show _ = [askV R S N G, .lost 6 (R.map Rec.enc ++ [[]]), Blk.arr _ _ ((R.map Rec.enc).take 6 ++ (exL id 0).map crdE)] ++ []; rw [show (R.map Rec.enc).take 6 ++ (exL id 0).map crdE = (R.map Rec.enc).take 6 from List.append_nil _]; rfl⟩, rfl, rfl⟩
    rintro a ha
    have hla : ((R.map Rec.enc).take 6 ++ (exL id a).map crdE).length = 6 + 5 * a := by rw [List.length_append, hbase, List.length_map, exL_len]
    refine aw_of T_ok (by kernel_rfl) ?_
    conv => whnf
    split <;> rename_i hlt <;> conv => whnf
    · have ha5 : a < 5 := by have := of_decide_eq_true hlt; omega
      refine AW.loop (fun n : Nat => n ≤ 5) (fun n => [(1, Go.Rx.I id), (2, .lf (.ptr 0 0)), (5, .lf (.own 2 (6 + 5 * a + n))), (6, Go.Rx.I ((a + 2 : Nat) : Int)), (7, Go.Rx.I n)]) (fun n => [askV R S N G, .lost 6 (R.map Rec.enc ++ [[]]), .arr 44 6 ((R.map Rec.enc).take 6 ++ (exL id a).map crdE ++ (kindL id a n).map crdE)]) (fun n => 5 - n) [] ?_ ?_
      · exact ⟨0, by omega, ⟨rfl, rfl, rfl, rfl, rfl, trivial⟩, ⟨[], by show _ = [askV R S N G, .lost 6 (R.map Rec.enc ++ [[]]), Blk.arr _ _ ((R.map Rec.enc).take 6 ++ (exL id a).map crdE ++ (kindL id a 0).map crdE)] ++ []; rw [show (R.map Rec.enc).take 6 ++ (exL id a).map crdE ++ (kindL id a 0).map crdE = (R.map Rec.enc).take 6 ++ (exL id a).map crdE from List.append_nil _]; rfl⟩, rfl, rfl⟩
      rintro n hn
      refine aw_of T_ok (by kernel_rfl) ?_
      conv => whnf
      split <;> rename_i hlt2 <;> conv => whnf
      · have hn5 : n < 5 := by have := of_decide_eq_true hlt2; omega
        have em : (R.map Rec.enc).take 6 ++ (exL id a).map crdE ++ (kindL id a (n + 1)).map crdE = (R.map Rec.enc).take 6 ++ (exL id a).map crdE ++ (kindL id a n).map crdE ++ [crdE (recK id ((a + 2 : Nat) : Int) n)] := by
          rw [kindL_succ, List.map_append]; simp only [List.append_assoc]; rfl
        refine ⟨rfl, _, .inl rfl, ?_⟩
        conv => whnf
        refine ⟨by rw [List.length_append, hla, List.length_map, kindL_len], by show (6 + 5 * a + n + 1) * 80 ≤ _; omega, ?_⟩
        conv => whnf
        refine ⟨n + 1, ⟨by omega, by omega⟩, ⟨rfl, rfl, rfl, rfl, congrArg Go.Rx.I (wrapI (by omega)), trivial⟩, ⟨[?r1B], ?e1B⟩, rfl, rfl⟩
        case e1B =>
          show _ = [askV R S N G, .lost 6 (R.map Rec.enc ++ [[]]), Blk.arr _ _ ((R.map Rec.enc).take 6 ++ (exL id a).map crdE ++ (kindL id a (n + 1)).map crdE)] ++ [_]
          rw [em]; rfl
      · have hn5 : n = 5 := by have := of_decide_eq_false hlt2; omega
        subst hn5
        have em : (R.map Rec.enc).take 6 ++ (exL id (a + 1)).map crdE = (R.map Rec.enc).take 6 ++ (exL id a).map crdE ++ (kindL id a 5).map crdE := by rw [exL_succ, List.map_append, List.append_assoc]
        refine ⟨a + 1, ⟨by omega, by omega⟩, ⟨rfl, rfl, rfl, congrArg Go.Rx.I (show IntKind.i64.wrap (((a + 2 : Nat) : Int) + 1) = (((a + 1) + 2 : Nat) : Int) by rw [wrapI (by omega)]; omega), trivial⟩, ⟨[], ?e2B⟩, rfl, rfl⟩
        case e2B =>
          show _ = [askV R S N G, .lost 6 (R.map Rec.enc ++ [[]]), Blk.arr _ _ ((R.map Rec.enc).take 6 ++ (exL id (a + 1)).map crdE)] ++ []
          rw [em]; rfl
    · have ha5 : a = 5 := by have := of_decide_eq_false hlt; omega
      subst ha5
      refine ⟨hla, ?_⟩
      refine ⟨[.lf (.pv (encRecs (recsL R id)))], ⟨.inr (.inl ⟨_, _, rfl, rfl, wkR ?_⟩), trivial⟩, rfl⟩
      rw [hbl]
      exact recs_rows R id
  · have h6' : R.length ≤ 6 := by have := of_decide_eq_false h6; omega
    have hbase : (R.map Rec.enc).length = R.length := hRm
    have hbl : R.map Rec.enc = (R.take 6).map Rec.enc := by rw [List.take_of_length_le h6']
    refine AW.loop (fun a : Nat => a ≤ 5) (fun a => [(1, Go.Rx.I id), (2, .lf (.ptr 0 0)), (5, .lf (.own 1 (R.length + 5 * a))), (6, Go.Rx.I ((a + 2 : Nat) : Int))]) (fun a => [askV R S N G, .arr 44 6 (R.map Rec.enc ++ (exL id a).map crdE)]) (fun a => 5 - a) [] ?_ ?_
    · exact ⟨0, by omega, ⟨rfl, rfl, rfl, rfl, trivial⟩, ⟨[], by show _ = [askV R S N G, Blk.arr _ _ (R.map Rec.enc ++ (exL id 0).map crdE)] ++ []; rw [show R.map Rec.enc ++ (exL id 0).map crdE = R.map Rec.enc from List.append_nil _]; rfl⟩, rfl, rfl⟩
    rintro a ha
    have hla : (R.map Rec.enc ++ (exL id a).map crdE).length = R.length + 5 * a := by rw [List.length_append, hbase, List.length_map, exL_len]
    refine aw_of T_ok (by kernel_rfl) ?_
    conv => whnf
    split <;> rename_i hlt <;> conv => whnf
    · have ha5 : a < 5 := by have := of_decide_eq_true hlt; omega
      refine AW.loop (fun n : Nat => n ≤ 5) (fun n => [(1, Go.Rx.I id), (2, .lf (.ptr 0 0)), (5, .lf (.own 1 (R.length + 5 * a + n))), (6, Go.Rx.I ((a + 2 : Nat) : Int)), (7, Go.Rx.I n)]) (fun n => [askV R S N G, .arr 44 6 (R.map Rec.enc ++ (exL id a).map crdE ++ (kindL id a n).map crdE)]) (fun n => 5 - n) [] ?_ ?_
      · exact ⟨0, by omega, ⟨rfl, rfl, rfl, rfl, rfl, trivial⟩, ⟨[], by show _ = [askV R S N G, Blk.arr _ _ (R.map Rec.enc ++ (exL id a).map crdE ++ (kindL id a 0).map crdE)] ++ []; rw [show R.map Rec.enc ++ (exL id a).map crdE ++ (kindL id a 0).map crdE = R.map Rec.enc ++ (exL id a).map crdE from List.append_nil _]; rfl⟩, rfl, rfl⟩
      rintro n hn
      refine aw_of T_ok (by kernel_rfl) ?_
      conv => whnf
      split <;> rename_i hlt2 <;> conv => whnf
      · have hn5 : n < 5 := by have := of_decide_eq_true hlt2; omega
        have em : R.map Rec.enc ++ (exL id a).map crdE ++ (kindL id a (n + 1)).map crdE = R.map Rec.enc ++ (exL id a).map crdE ++ (kindL id a n).map crdE ++ [crdE (recK id ((a + 2 : Nat) : Int) n)] := by
          rw [kindL_succ, List.map_append]; simp only [List.append_assoc]; rfl
        refine ⟨rfl, _, .inl rfl, ?_⟩
        conv => whnf
        refine ⟨by rw [List.length_append, hla, List.length_map, kindL_len], by show (R.length + 5 * a + n + 1) * 80 ≤ _; omega, ?_⟩
        conv => whnf
        refine ⟨n + 1, ⟨by omega, by omega⟩, ⟨rfl, rfl, rfl, rfl, congrArg Go.Rx.I (wrapI (by omega)), trivial⟩, ⟨[?r1A], ?e1A⟩, rfl, rfl⟩
        case e1A =>
          show _ = [askV R S N G, Blk.arr _ _ (R.map Rec.enc ++ (exL id a).map crdE ++ (kindL id a (n + 1)).map crdE)] ++ [_]
          rw [em]; rfl
      · have hn5 : n = 5 := by have := of_decide_eq_false hlt2; omega
        subst hn5
        have em : R.map Rec.enc ++ (exL id (a + 1)).map crdE = R.map Rec.enc ++ (exL id a).map crdE ++ (kindL id a 5).map crdE := by rw [exL_succ, List.map_append, List.append_assoc]
        refine ⟨a + 1, ⟨by omega, by omega⟩, ⟨rfl, rfl, rfl, congrArg Go.Rx.I (show IntKind.i64.wrap (((a + 2 : Nat) : Int) + 1) = (((a + 1) + 2 : Nat) : Int) by rw [wrapI (by omega)]; omega), trivial⟩, ⟨[], ?e2A⟩, rfl, rfl⟩
        case e2A =>
          show _ = [askV R S N G, Blk.arr _ _ (R.map Rec.enc ++ (exL id (a + 1)).map crdE)] ++ []
          rw [em]; rfl
    · have ha5 : a = 5 := by have := of_decide_eq_false hlt; omega
      subst ha5
      refine ⟨hla, ?_⟩
      refine ⟨[.lf (.pv (encRecs (recsL R id)))], ⟨.inr (.inl ⟨_, _, rfl, rfl, wkR ?_⟩), trivial⟩, rfl⟩
      rw [hbl]
      exact recs_rows R id
end Go.Proofs.Ytbfjcbhpbldlcaa.Rx
