/- How much the input is: a number, whatever it is. -/
import Derived.Test.YtbfjcbhpbldlcaaRxM2
set_option linter.unusedVariables false
set_option linter.unusedSimpArgs false
namespace Go.Rx
/-- A sum that stops where it is great. -/
def capSum : List Int → Int → Int
  | [], n => n
  | x :: l, n => if n < 1048576 then capSum l (IntKind.i64.wrap (n + x)) else n
theorem capSum_go {l : List Int} {k : Nat} {n : Int} (h : k < l.length) (hn : n < 1048576) : capSum (l.drop k) n = capSum (l.drop (k + 1)) (IntKind.i64.wrap (n + l[k])) := by
  rw [List.drop_eq_getElem_cons h, capSum, if_pos hn]
theorem capSum_stop {l : List Int} {n : Int} (hn : ¬ n < 1048576) : capSum l n = n := by
  cases l with
  | nil => rfl
  | cons x l => rw [capSum, if_neg hn]
abbrev okS (s : ByteArray) : Prop := s.size ≤ 140737488351232
structure Step.Ok (s : Step) : Prop where
  nm : okS s.nm
  op : okS s.op
  undo : okS s.undo
  who : okS s.who
def Step.w (s : Step) : Int := IntKind.i64.wrap (IntKind.i64.wrap (IntKind.i64.wrap ((s.nm.size : Int) + s.op.size) + s.undo.size) + s.who.size) / 8
def stepsW (l : List Step) : Int := capSum (l.map Step.w) l.length
def sumW (a b : ByteArray) : Int := IntKind.i64.wrap ((a.size : Int) + b.size) / 64
theorem Step.sum_eq {s : Step} (h : s.Ok) : IntKind.i64.wrap (IntKind.i64.wrap (IntKind.i64.wrap ((s.nm.size : Int) + s.op.size) + s.undo.size) + s.who.size) = s.nm.size + s.op.size + s.undo.size + s.who.size := by
  have := h.nm; have := h.op; have := h.undo; have := h.who
  simp only [okS] at *
  rw [wrapI (n := (s.nm.size : Int) + s.op.size) (by omega), wrapI (n := (s.nm.size : Int) + s.op.size + s.undo.size) (by omega), wrapI (by omega)]
abbrev encStrs (l : List ByteArray) : PV := .sl 1 (l.map fun s => [pS s])
abbrev encInts (l : List Int) : PV := .sl 1 (l.map fun n => [pI n])
abbrev encSagas (l : List Saga) : PV := .sl 9 (l.map Saga.enc)
abbrev encRecs (l : List Rec) : PV := .sl 6 (l.map Rec.enc)
def textsW (l : List ByteArray) : Int := capSum (l.map fun s => (s.size : Int)) l.length
def recW (r : Rec) : Int := IntKind.i64.wrap (IntKind.i64.wrap (1 + sumW r.key r.body) + stepsW r.steps)
def sagaW (s : Saga) : Int := IntKind.i64.wrap (IntKind.i64.wrap (1 + sumW s.key s.body) + stepsW s.steps)
structure StepsOk (l : List Step) : Prop where
  len : l.length * 80 ≤ 140737488351232
  each : ∀ x ∈ l, x.Ok
structure Rec.Ok (r : Rec) : Prop where
  key : okS r.key
  body : okS r.body
  steps : StepsOk r.steps
structure Saga.Ok (s : Saga) : Prop where
  key : okS s.key
  body : okS s.body
  steps : StepsOk s.steps
end Go.Rx
namespace Go.Proofs.Ytbfjcbhpbldlcaa.Rx
open Go.Rx Go.Proofs

theorem texts_con (l : List ByteArray) (hl : l.length * 16 ≤ 140737488351232) : Con P 70 [.lf (.pv (encStrs l))] (I (textsW l)) [] := by
  refine Con.of T_ok Try.func70 rfl (by kernel_rfl) (by kernel_rfl) (aw_of T_ok (by kernel_rfl) ?_)
  conv => whnf
  refine AW.loop (fun p : Nat × Int => p.1 ≤ l.length ∧ capSum ((l.map fun s => (s.size : Int)).drop p.1) p.2 = textsW l) (fun p => [(0, .lf (.pv (encStrs l))), (3, Go.Rx.I p.2), (4, Go.Rx.I p.1)]) (fun _ => []) (fun p => l.length - p.1) [] ?_ ?_
  · exact ⟨(0, l.length), ⟨Nat.zero_le _, rfl⟩, ⟨rfl, congrArg (fun n : Nat => Go.Rx.I (n : Int)) (List.length_map ..), rfl, trivial⟩, ⟨[], rfl⟩, rfl, rfl⟩
  · rintro ⟨k, n⟩ ⟨hk, hsum⟩
    refine aw_of T_ok (by kernel_rfl) ?_
    conv => whnf
    split <;> rename_i hlt <;> conv => whnf
    · have hkl : k < l.length := by simp at hlt; omega
      split <;> rename_i hn <;> conv => whnf
      · refine ⟨by omega, [pS l[k]], by simp [hkl], ?_⟩
        conv => whnf
        have hn' : n < 1048576 := of_decide_eq_true hn
        refine ⟨(k + 1, IntKind.i64.wrap (n + l[k].size)), ⟨⟨by show k + 1 ≤ _; omega, ?_⟩, by show _ - (k + 1) < _; omega⟩, ⟨rfl, rfl, congrArg Go.Rx.I (wrapI (by omega)), trivial⟩, ⟨[], rfl⟩, rfl, rfl⟩
        rw [← hsum]
        have h3 := capSum_go (l := l.map fun s => (s.size : Int)) (k := k) (by simpa using hkl) hn'
        rw [List.getElem_map] at h3
        exact h3.symm
      · refine finI ⟨?_⟩
        rw [← hsum, capSum_stop (of_decide_eq_false hn)]
    · refine finI ⟨?_⟩
      have hkl : k = l.length := by simp at hlt; omega
      rw [← hsum, hkl, List.drop_of_length_le (by simp)]
      rfl

theorem stepsWeight_con (l : List Step) (hl : StepsOk l) : Con P 56 [.lf (.pv (encSteps l))] (I (stepsW l)) [] := by
  refine Con.of T_ok Try.func56 rfl (by kernel_rfl) (by kernel_rfl) (aw_of T_ok (by kernel_rfl) ?_)
  conv => whnf
  have hlen := hl.len
  refine AW.loop (fun p : Nat × Int => p.1 ≤ l.length ∧ capSum ((l.map Step.w).drop p.1) p.2 = stepsW l) (fun p => [(0, .lf (.pv (encSteps l))), (3, Go.Rx.I p.2), (4, Go.Rx.I p.1)]) (fun _ => []) (fun p => l.length - p.1) [] ?_ ?_
  · exact ⟨(0, l.length), ⟨Nat.zero_le _, rfl⟩, ⟨rfl, congrArg (fun n : Nat => Go.Rx.I (n : Int)) (List.length_map ..), rfl, trivial⟩, ⟨[], rfl⟩, rfl, rfl⟩
  · rintro ⟨k, n⟩ ⟨hk, hsum⟩
    refine aw_of T_ok (by kernel_rfl) ?_
    conv => whnf
    split <;> rename_i hlt <;> conv => whnf
    · have hkl : k < l.length := by simp at hlt; omega
      have hok := hl.each _ (List.getElem_mem hkl)
      split <;> rename_i hn <;> conv => whnf
      · have hn' : n < 1048576 := of_decide_eq_true hn
        refine AW.draw T_ok rfl (seqPl 0 31) (by kernel_rfl) (by kernel_rfl) ?_
        conv => whnf
        refine ⟨by omega, (l[k]).enc, by simp [hkl], ?_⟩
        conv => whnf
        refine ⟨by omega, (l[k]).enc, by simp [hkl], ?_⟩
        conv => whnf
        refine ⟨by omega, (l[k]).enc, by simp [hkl], ?_⟩
        conv => whnf
        refine ⟨by omega, (l[k]).enc, by simp [hkl], ?_⟩
        conv => whnf
        have h4 := Step.sum_eq hok
        have h5 : (l[k].nm.size : Int) + l[k].op.size + l[k].undo.size + l[k].who.size ≤ 9223372036854775807 := by
          have := hok.nm; have := hok.op; have := hok.undo; have := hok.who
          simp only [okS] at *
          omega
        refine ⟨by show 0 ≤ IntKind.i64.wrap (IntKind.i64.wrap (IntKind.i64.wrap ((l[k].nm.size : Int) + l[k].op.size) + l[k].undo.size) + l[k].who.size); rw [h4]; omega, by decide, by show IntKind.i64.wrap (IntKind.i64.wrap (IntKind.i64.wrap ((l[k].nm.size : Int) + l[k].op.size) + l[k].undo.size) + l[k].who.size) ≤ _; rw [h4]; exact h5, ?_⟩
        conv => whnf
        refine ⟨(k + 1, IntKind.i64.wrap (n + l[k].w)), ⟨⟨by show k + 1 ≤ _; omega, ?_⟩, by show _ - (k + 1) < _; omega⟩, ⟨rfl, rfl, congrArg Go.Rx.I (wrapI (by omega)), trivial⟩, ⟨[], rfl⟩, rfl, rfl⟩
        rw [← hsum]
        have h3 := capSum_go (l := l.map Step.w) (k := k) (by simpa using hkl) hn'
        rw [List.getElem_map] at h3
        exact h3.symm
      · refine finI ⟨?_⟩
        rw [← hsum, capSum_stop (of_decide_eq_false hn)]
    · refine finI ⟨?_⟩
      have hkl : k = l.length := by simp at hlt; omega
      rw [← hsum, hkl, List.drop_of_length_le (by simp)]
      rfl
theorem recW_con (r : Rec) (h : r.Ok) : Con P 57 [encRec r] (I (recW r)) [] := by
  refine Con.of T_ok Try.func57 rfl (by kernel_rfl) (by kernel_rfl) (aw_of T_ok (by kernel_rfl) ?_)
  conv => whnf
  refine AW.draw T_ok rfl (seqPl 0 14) (by kernel_rfl) (by kernel_rfl) ?_
  conv => whnf
  have h1 := h.key
  have h2 := h.body
  have h3 : IntKind.i64.wrap ((r.key.size : Int) + r.body.size) = r.key.size + r.body.size := wrapI (by simp only [okS] at *; omega)
  refine ⟨by show 0 ≤ IntKind.i64.wrap ((r.key.size : Int) + r.body.size); rw [h3]; omega, by decide, by show IntKind.i64.wrap ((r.key.size : Int) + r.body.size) ≤ _; rw [h3]; simp only [okS] at *; omega, ?_⟩
  conv => whnf
  refine callS (stepsWeight_con _ h.steps) rfl ?_
  conv => whnf
  exact finI ⟨rfl⟩
theorem sagaW_con (s : Saga) (h : s.Ok) : Con P 36 [encSaga s] (I (sagaW s)) [] := by
  refine Con.of T_ok Try.func36 rfl (by kernel_rfl) (by kernel_rfl) (aw_of T_ok (by kernel_rfl) ?_)
  conv => whnf
  refine AW.draw T_ok rfl (seqPl 0 14) (by kernel_rfl) (by kernel_rfl) ?_
  conv => whnf
  have h1 := h.key
  have h2 := h.body
  have h3 : IntKind.i64.wrap ((s.key.size : Int) + s.body.size) = s.key.size + s.body.size := wrapI (by simp only [okS] at *; omega)
  refine ⟨by show 0 ≤ IntKind.i64.wrap ((s.key.size : Int) + s.body.size); rw [h3]; omega, by decide, by show IntKind.i64.wrap ((s.key.size : Int) + s.body.size) ≤ _; rw [h3]; simp only [okS] at *; omega, ?_⟩
  conv => whnf
  refine callS (stepsWeight_con _ h.steps) rfl ?_
  conv => whnf
  exact finI ⟨rfl⟩
theorem heavy2_con (S : List ByteArray) (N : List Int) (hS : S.length * 16 ≤ 140737488351232) : ∃ b, Con P 58 [.agg [.pv (encStrs S), .pv (encInts N)]] (Bl b) [] := by
  refine ⟨decide (7000 < IntKind.i64.wrap (textsW S + (N.map fun n => [pI n]).length)), Con.of T_ok Try.func58 rfl (by kernel_rfl) (by kernel_rfl) (aw_of T_ok (by kernel_rfl) ?_)⟩
  conv => whnf
  refine AW.draw T_ok rfl (listPl [0, 1, 3, 4, 5, 2, 6, 7, 8]) (by kernel_rfl) (by kernel_rfl) ?_
  conv => whnf
  refine callS (texts_con _ hS) rfl ?_
  conv => whnf
  exact finB ⟨rfl⟩
theorem heavy11_con (R : List Rec) (S : List ByteArray) (N : List Int) (hR : R.length * 80 ≤ 140737488351232) (hRs : ∀ r ∈ R, r.Ok) (hS : S.length * 16 ≤ 140737488351232) : ∃ b, Con P 37 [.agg [.pv (encRecs R), .pv (encStrs S), .pv (encInts N)]] (Bl b) [] := by
  obtain ⟨b2, hb2⟩ := heavy2_con S N hS
  refine ⟨decide (400 < capSum (R.map recW) R.length) || b2, Con.of T_ok Try.func37 rfl (by kernel_rfl) (by kernel_rfl) (aw_of T_ok (by kernel_rfl) ?_)⟩
  conv => whnf
  refine AW.loop (fun p : Nat × Int => p.1 ≤ R.length ∧ capSum ((R.map recW).drop p.1) p.2 = capSum (R.map recW) R.length) (fun p => [(1, .lf (.ptr 0 0)), (3, Go.Rx.I p.2), (4, Go.Rx.I p.1)]) (fun _ => [.var [.pv (encRecs R), .pv (encStrs S), .pv (encInts N)]]) (fun p => R.length - p.1) [] ?_ ?_
  · exact ⟨(0, R.length), ⟨Nat.zero_le _, rfl⟩, ⟨rfl, congrArg (fun n : Nat => Go.Rx.I (n : Int)) (List.length_map ..), rfl, trivial⟩, ⟨[], rfl⟩, rfl, rfl⟩
  · rintro ⟨k, n⟩ ⟨hk, hsum⟩
    refine aw_of T_ok (by kernel_rfl) ?_
    conv => whnf
    have fin : ∀ m, m = capSum (R.map recW) R.length → (decide (400 < m) || b2) = (decide (400 < capSum (R.map recW) R.length) || b2) := fun m h => by rw [h]
    split <;> rename_i hlt <;> conv => whnf
    · have hkl : k < R.length := by simp at hlt; omega
      split <;> rename_i hn <;> conv => whnf
      · refine ⟨by omega, (R[k]).enc, by simp [hkl], ?_⟩
        conv => whnf
        refine callS (recW_con _ (hRs _ (List.getElem_mem hkl))) rfl ?_
        conv => whnf
        have hn' : n < 1048576 := of_decide_eq_true hn
        refine ⟨(k + 1, IntKind.i64.wrap (n + recW R[k])), ⟨⟨by show k + 1 ≤ _; omega, ?_⟩, by show _ - (k + 1) < _; omega⟩, ⟨rfl, rfl, congrArg Go.Rx.I (wrapI (by omega)), trivial⟩, ⟨[], rfl⟩, rfl, rfl⟩
        rw [← hsum]
        have h3 := capSum_go (l := R.map recW) (k := k) (by simpa using hkl) hn'
        rw [List.getElem_map] at h3
        exact h3.symm
      · have hm : n = capSum (R.map recW) R.length := by rw [← hsum, capSum_stop (of_decide_eq_false hn)]
        split <;> rename_i h4 <;> conv => whnf
        · refine finB ⟨?_⟩
          rw [← fin n hm, show decide (400 < n) = true from h4]; rfl
        · refine callS hb2 rfl ?_
          conv => whnf
          refine finB ⟨?_⟩
          rw [← fin n hm, show decide (400 < n) = false from h4]; rfl
    · have hkl : k = R.length := by simp at hlt; omega
      have hm : n = capSum (R.map recW) R.length := by rw [← hsum, hkl, List.drop_of_length_le (by simp)]; rfl
      split <;> rename_i h4 <;> conv => whnf
      · refine finB ⟨?_⟩
        rw [← fin n hm, show decide (400 < n) = true from h4]; rfl
      · refine callS hb2 rfl ?_
        conv => whnf
        refine finB ⟨?_⟩
        rw [← fin n hm, show decide (400 < n) = false from h4]; rfl
structure AskOk (R : List Rec) (S : List ByteArray) (N : List Int) (G : List Saga) : Prop where
  hR : R.length * 80 ≤ 140737488351232
  hRs : ∀ r ∈ R, r.Ok
  hS : S.length * 16 ≤ 140737488351232
  hG : G.length * 96 ≤ 140737488351232
  hGs : ∀ s ∈ G, s.Ok
theorem heavy14_con (R : List Rec) (S : List ByteArray) (N : List Int) (G : List Saga) (h : AskOk R S N G) : ∃ b, Con P 13 [.agg [.pv (encRecs R), .pv (encStrs S), .pv (encInts N), .pv (encSagas G)]] (Bl b) [] := by
  obtain ⟨b2, hb2⟩ := heavy11_con R S N h.hR h.hRs h.hS
  have hG := h.hG
  refine ⟨decide (400 < capSum (G.map sagaW) G.length) || b2, Con.of T_ok Try.func13 rfl (by kernel_rfl) (by kernel_rfl) (aw_of T_ok (by kernel_rfl) ?_)⟩
  conv => whnf
  refine AW.loop (fun p : Nat × Int => p.1 ≤ G.length ∧ capSum ((G.map sagaW).drop p.1) p.2 = capSum (G.map sagaW) G.length) (fun p => [(1, .lf (.ptr 0 0)), (3, Go.Rx.I p.2), (4, Go.Rx.I p.1)]) (fun _ => [.var [.pv (encRecs R), .pv (encStrs S), .pv (encInts N), .pv (encSagas G)]]) (fun p => G.length - p.1) [] ?_ ?_
  · exact ⟨(0, G.length), ⟨Nat.zero_le _, rfl⟩, ⟨rfl, congrArg (fun n : Nat => Go.Rx.I (n : Int)) (List.length_map ..), rfl, trivial⟩, ⟨[], rfl⟩, rfl, rfl⟩
  · rintro ⟨k, n⟩ ⟨hk, hsum⟩
    refine aw_of T_ok (by kernel_rfl) ?_
    conv => whnf
    have fin : ∀ m, m = capSum (G.map sagaW) G.length → (decide (400 < m) || b2) = (decide (400 < capSum (G.map sagaW) G.length) || b2) := fun m h => by rw [h]
    split <;> rename_i hlt <;> conv => whnf
    · have hkl : k < G.length := by simp at hlt; omega
      split <;> rename_i hn <;> conv => whnf
      · refine ⟨by omega, (G[k]).enc, by simp [hkl], ?_⟩
        conv => whnf
        refine callS (sagaW_con _ (h.hGs _ (List.getElem_mem hkl))) rfl ?_
        conv => whnf
        have hn' : n < 1048576 := of_decide_eq_true hn
        refine ⟨(k + 1, IntKind.i64.wrap (n + sagaW G[k])), ⟨⟨by show k + 1 ≤ _; omega, ?_⟩, by show _ - (k + 1) < _; omega⟩, ⟨rfl, rfl, congrArg Go.Rx.I (wrapI (by omega)), trivial⟩, ⟨[], rfl⟩, rfl, rfl⟩
        rw [← hsum]
        have h3 := capSum_go (l := G.map sagaW) (k := k) (by simpa using hkl) hn'
        rw [List.getElem_map] at h3
        exact h3.symm
      · have hm : n = capSum (G.map sagaW) G.length := by rw [← hsum, capSum_stop (of_decide_eq_false hn)]
        split <;> rename_i h4 <;> conv => whnf
        · refine finB ⟨?_⟩
          rw [← fin n hm, show decide (400 < n) = true from h4]; rfl
        · refine callS hb2 rfl ?_
          conv => whnf
          refine finB ⟨?_⟩
          rw [← fin n hm, show decide (400 < n) = false from h4]; rfl
    · have hkl : k = G.length := by simp at hlt; omega
      have hm : n = capSum (G.map sagaW) G.length := by rw [← hsum, hkl, List.drop_of_length_le (by simp)]; rfl
      split <;> rename_i h4 <;> conv => whnf
      · refine finB ⟨?_⟩
        rw [← fin n hm, show decide (400 < n) = true from h4]; rfl
      · refine callS hb2 rfl ?_
        conv => whnf
        refine finB ⟨?_⟩
        rw [← fin n hm, show decide (400 < n) = false from h4]; rfl
end Go.Proofs.Ytbfjcbhpbldlcaa.Rx
