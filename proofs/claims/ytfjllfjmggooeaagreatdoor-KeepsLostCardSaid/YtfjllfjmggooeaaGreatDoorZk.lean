/- The texts of the proof, part 11, in order. -/
import Derived.Test.YtfjllfjmggooeaaGreatDoorZj
/- A world without sagas. -/
set_option linter.unusedVariables false
set_option linter.unusedSimpArgs false
namespace Go.Rx
theorem finWN {f : FileS} {o : List Int} {q : Wd × Int} (h : Fin (⟨0, f, newL, [], o, 0⟩, 0) q) :
    ∃ zs, Fa WkA [.agg [.pv (pI 0), .pv (pS f.safe), .pv (pS f.tail), .pv (pI f.cap), .pv (encLedgers newL), .pv (.sc (.slice none 0 0)), .pv (encInts o), .pv (pI 0)], I 0] zs ∧ pack zs = some (wdE q) := by
  rw [← h.out]
  exact ⟨[.agg (Wd.lfs ⟨0, f, newL, [], o, 0⟩), I 0], ⟨.inr (.inr ⟨_, _, rfl, rfl, .inl rfl, .inl rfl, .inl rfl, .inl rfl, .inl rfl, wkN 18, .inl rfl, .inl rfl, trivial⟩), .inl rfl, trivial⟩, rfl⟩
end Go.Rx
namespace Go.Proofs.YtfjllfjmggooeaaGreatDoor.Rx
open Go.Rx Go.Proofs Go.Proofs.YtfjllfjmggooeaaGreatDoor.RxH
theorem new1_con (k : Nat) (hk : k < 4) : Con P 67 [Go.Rx.I (IntKind.i64.wrap ((k : Int) + 1))] (ledgE (⟨((k + 1 : Nat) : Int), [], []⟩, 0)) [] := by
  have c := new_con (IntKind.i64.wrap ((k : Int) + 1))
  have e : IntKind.i64.wrap ((k : Int) + 1) = ((k + 1 : Nat) : Int) := wrapI (by omega)
  rw [e] at c ⊢
  have e2 : newP ((k + 1 : Nat) : Int) = (⟨((k + 1 : Nat) : Int), [], []⟩, 0) := by
    unfold newP
    rw [if_pos (by unfold svB; simp; omega)]
  rw [e2] at c
  exact c
theorem newL_take (k : Nat) (hk : k < 4) : newL.take (k + 1) = newL.take k ++ [⟨((k + 1 : Nat) : Int), [], []⟩] := by
  match k, hk with
  | 0, _ => rfl
  | 1, _ => rfl
  | 2, _ => rfl
  | 3, _ => rfl
set_option maxHeartbeats 4000000 in
theorem newWd_con (size : Int) (outs : List Int) (ho : outs.length * 8 ≤ 140737488351232) : Con P 32 [Go.Rx.I size, .lf (.pv (encInts outs))] (wdE (newWd size outs)) [] := by
  have cf := fnew_con size
  have cc := cloneI_con outs ho
  have hq : newWd size outs = if (newF size).2 = 0 then (if worldB ⟨0, (newF size).1, newL, [], outs, 0⟩ then (⟨0, (newF size).1, newL, [], outs, 0⟩, 0) else (zWd, 1)) else (zWd, (newF size).2) := rfl
  have hfo : (newF size).1.Ok := by
    unfold newF
    split
    · exact ⟨Nat.zero_le _, Nat.zero_le _⟩
    · exact ⟨Nat.zero_le _, Nat.zero_le _⟩
  generalize newF size = x at cf hq hfo
  obtain ⟨f, e⟩ := x
  simp only at hq hfo
  have cm := worldMay_con ⟨0, f, newL, [], outs, 0⟩ ⟨hfo, by show 4 * 56 ≤ _; decide, by show 0 * 200 ≤ _; decide, ho, fun g hg => by
    have hz : (⟨1, [], []⟩ : Ledger).Ok ∧ (⟨2, [], []⟩ : Ledger).Ok ∧ (⟨3, [], []⟩ : Ledger).Ok ∧ (⟨4, [], []⟩ : Ledger).Ok := by
      refine ⟨?_, ?_, ?_, ?_⟩ <;> exact ⟨by decide, by decide, fun x hx => by cases hx⟩
    have hg' : g ∈ [(⟨1, [], []⟩ : Ledger), ⟨2, [], []⟩, ⟨3, [], []⟩, ⟨4, [], []⟩] := hg
    simp only [List.mem_cons, List.not_mem_nil, or_false] at hg'
    rcases hg' with h | h | h | h
    · rw [h]; exact hz.1
    · rw [h]; exact hz.2.1
    · rw [h]; exact hz.2.2.1
    · rw [h]; exact hz.2.2.2, fun v hv => by cases hv⟩
  have hom : (intRows outs).length = outs.length := List.length_map ..
  obtain ⟨q, he⟩ : ∃ q, q = newWd size outs := ⟨_, rfl⟩
  rw [← he] at hq ⊢
  generalize worldB ⟨0, f, newL, [], outs, 0⟩ = wb at cm hq
  refine Con.of T_ok Tryz.func32 rfl (by kernel_rfl) (by kernel_rfl) (aw_ofC T_ok 2004 (by kernel_rfl) ?_)
  conv => whnf
  refine callU cf (fun _ => rfl) ?_
  conv => whnf
  split <;> rename_i h1 <;> conv => whnf
  · have h1' : ¬ e = 0 := by have h2 : (e != 0) = true := h1; simpa using h2
    exact finWZ ⟨by rw [hq, if_neg h1']⟩
  have h1' : e = 0 := by have h2 : (e != 0) = false := h1; simpa using h2
  rw [if_pos h1'] at hq
  refine AW.cutS (fun _ : Unit => True) (fun _ => [(4, .lf (.ptr 0 0)), (8, .lf (.ptr 1 0))])
    (fun _ => [.var zWdV, .var [.pv (pI 0), .pv (pS f.safe), .pv (pS f.tail), .pv (pI f.cap), .pv (.sc (.slice none 0 0)), .pv (.sc (.slice none 0 0)), .own 2 outs.length, .pv (pI 0)], .arr 3 1 (intRows outs)]) (aw_of T_ok (by kernel_rfl) ?_) ?_
  · conv => whnf
    refine AW.draw T_ok rfl (.one 0 (.one 1 (.two 2 (listPl [3, 4, 5]) 4 (listPl [2, 3, 5])))) (by kernel_rfl) (by kernel_rfl) ?_
    conv => whnf
    refine ⟨?_, ?_⟩ <;> conv => whnf
    · refine ⟨_, _, _, wk_refl _, cc, .inr ?_⟩
      conv => whnf
      refine ⟨[0, 3, 2], [(4, .lf (.ptr 0 0)), (8, .lf (.ptr 3 0))], ⟨rfl, rfl, trivial⟩, rfl, _, _, rfl, rfl, [], ?_⟩
      exact ⟨(), trivial, ⟨rfl, rfl, trivial⟩, ⟨[], rfl⟩, rfl, rfl⟩
    · refine ⟨_, _, _, wk_refl _, cc, .inr ?_⟩
      conv => whnf
      refine ⟨[0, 2, 3], [(4, .lf (.ptr 0 0)), (8, .lf (.ptr 2 0))], ⟨rfl, rfl, trivial⟩, rfl, _, _, rfl, rfl, [], ?_⟩
      exact ⟨(), trivial, ⟨rfl, rfl, trivial⟩, ⟨[], rfl⟩, rfl, rfl⟩
  rintro _ _
  refine aw_of T_ok (by kernel_rfl) ?_
  conv => whnf
  refine AW.loop (fun k : Nat => k ≤ 4) (fun k => [(4, .lf (.ptr 0 0)), (8, .lf (.ptr 1 0)), (25, Go.Rx.I k)])
    (fun k => [.var zWdV, .var [.pv (pI 0), .pv (pS f.safe), .pv (pS f.tail), .pv (pI f.cap), .own 3 (newL.take k).length, .pv (.sc (.slice none 0 0)), .own 2 outs.length, .pv (pI 0)], .arr 3 1 (intRows outs), .arr 47 3 ((newL.take k).map Ledger.enc)]) (fun k => 4 - k) [.cell 1 4 47 3] ?_ ?_
  · exact ⟨rfl, 0, Nat.zero_le _, ⟨rfl, rfl, rfl, trivial⟩, ⟨[], rfl⟩, rfl, rfl⟩
  intro k hk
  refine aw_of T_ok (by kernel_rfl) ?_
  conv => whnf
  split <;> rename_i hlt <;> conv => whnf
  · have hkl : k < 4 := by have := of_decide_eq_true hlt; omega
    refine callU (new1_con k hkl) (fun _ => rfl) ?_
    conv => whnf
    refine ⟨rfl, _, .inl rfl, ?_⟩
    conv => whnf
    have htl : (newL.take k).length ≤ 4 := by rw [List.length_take]; show min k 4 ≤ 4; omega
    refine ⟨List.length_map .., by show ((newL.take k).length + 1) * 56 ≤ _; omega, ?_⟩
    conv => whnf
    refine ⟨k + 1, ⟨hkl, by omega⟩, ⟨rfl, rfl, congrArg Go.Rx.I (wrapI (by omega)), trivial⟩, ⟨[?z1, ?z2], ?zb⟩, rfl, rfl⟩
    case zb =>
      show _ = [_, Blk.var [_, _, _, _, .own 3 (newL.take (k + 1)).length, _, _, _], _, Blk.arr _ 3 ((newL.take (k + 1)).map Ledger.enc)] ++ [_, _]
      rw [newL_take k hkl, List.length_append, List.map_append]
      rfl
  · have hkl : k = 4 := by have := of_decide_eq_false hlt; omega
    subst hkl
    refine ⟨rfl, ?_⟩
    conv => whnf
    refine ⟨hom, ?_⟩
    conv => whnf
    refine callW cm ⟨.inr (.inr ⟨_, _, rfl, rfl, .inl rfl, .inl rfl, .inl rfl, .inl rfl, .inl rfl, wkN 18, .inl rfl, .inl rfl, trivial⟩), trivial⟩ rfl ?_
    conv => whnf
    cases wb with
    | false =>
      conv => whnf
      exact finWZ ⟨by rw [hq]; rfl⟩
    | true =>
      conv => whnf
      refine ⟨rfl, ?_⟩
      conv => whnf
      refine ⟨hom, ?_⟩
      conv => whnf
      exact finWN ⟨by rw [hq]; rfl⟩
end Go.Proofs.YtfjllfjmggooeaaGreatDoor.Rx

/- The page's files and records; which files the law makes. -/
set_option linter.unusedVariables false
set_option linter.unusedSimpArgs false
namespace Go.Rx
structure FsOk (f : FileS) : Prop where
  ok : f.Ok
  le : f.safe.size ≤ 1000000
def FsAll (l : List FileS) : Prop := ∀ f ∈ l, FsOk f
theorem FsAll.app {l m : List FileS} (h : FsAll l) (k : FsAll m) : FsAll (l ++ m) := fun f hf => by
  rcases List.mem_append.1 hf with h1 | h1
  · exact h f h1
  · exact k f h1
end Go.Rx
namespace Go.Proofs.YtfjllfjmggooeaaGreatDoor.Rx
open Go.Rx Go.Proofs Go.Proofs.YtfjllfjmggooeaaGreatDoor.RxB
theorem file9_con (f : FileS) (h : f.Ok) : Con P 30 [encFile f] (Bl (fileB f)) [] := by
  have h1 := h.safe
  have h2 := h.tail
  obtain ⟨q, hq⟩ : ∃ q, q = fileB f := ⟨_, rfl⟩
  rw [← hq]
  refine Con.of T_ok Tryz.func30 rfl (by kernel_rfl) (by kernel_rfl) (aw_of T_ok (by kernel_rfl) ?_)
  conv => whnf
  refine callS (between_con f.cap 1 60000) rfl ?_
  conv => whnf
  split <;> rename_i t1 <;> conv => whnf
  · have hc : (decide (1 ≤ f.cap) && decide (f.cap ≤ 60000)) = true := t1
    simp only [Bool.and_eq_true, decide_eq_true_eq] at hc
    split <;> rename_i t2 <;> conv => whnf
    · have a2 : (f.safe.size : Int) ≤ f.cap := of_decide_eq_true t2
      refine finB ⟨?_⟩
      rw [hq, wrapI (by omega), fileB, decide_eq_true hc.1, decide_eq_true hc.2, Bool.true_and, Bool.true_and, decide_eq_decide]
      omega
    · have a2 : ¬ (f.safe.size : Int) ≤ f.cap := of_decide_eq_false t2
      refine finB ⟨?_⟩
      rw [hq, eq_comm, ← Bool.not_eq_true, fileB_iff]
      omega
  · have hc : (decide (1 ≤ f.cap) && decide (f.cap ≤ 60000)) = false := t1
    refine finB ⟨?_⟩
    rw [hq, fileB, ← Bool.and_assoc, hc]; rfl
theorem free9_con (f : FileS) (h : f.Ok) (hb : fileB f = true) : Con P 15 [encFile f] (Go.Rx.I (roomF f)) [] := by
  obtain ⟨h1, h2, h3⟩ := fileB_iff.1 hb
  refine Con.of T_ok Tryz.func15 rfl (by kernel_rfl) (by kernel_rfl) (aw_of T_ok (by kernel_rfl) ?_)
  conv => whnf
  exact finI ⟨by rw [wrapI (n := f.cap - f.safe.size) (by omega), wrapI (by omega), roomF]⟩
end Go.Proofs.YtfjllfjmggooeaaGreatDoor.Rx

/- The page's look at a world. -/
set_option linter.unusedVariables false
set_option linter.unusedSimpArgs false
namespace Go.Rx
def outsB (l : List Int) : Bool := decide ((l.length : Int) ≤ 400) && !(l.any outBad)
/-- May a live be, whose saga may be: as the page says. -/
def live9B (v : Live) : Bool :=
  if !(decide (0 ≤ v.tries) && decide (v.tries ≤ 1073741824)) || !(decide (0 ≤ v.due) && decide (v.due ≤ 1073741832)) then false
  else if decide (v.write = zRec) then !v.put else if !(recB v.write) || v.write.kind == 1 then false else fitsL v
theorem idx_ge {α : Type} {p : α → Bool} : ∀ (l : List α) (k : Nat), -1 ≤ idxL p l k
  | [], k => by rw [idxL]; exact Int.le_refl _
  | a :: l, k => by
    rw [idxL]
    split
    · omega
    · exact idx_ge l (k + 1)
theorem nothing_eq (r : Rec) : nothingB r = decide (r = zRec) := by
  obtain ⟨k, i, n, key, body, steps⟩ := r
  rw [nothingB, zRec, recEq]
  simp only
  cases steps with
  | nil => simp [Bool.and_assoc]
  | cons a l =>
    simp
    intros
    omega
theorem live9_eq (v : Live) : live9B v = liveB v := by
  have hc : (!(decide (0 ≤ v.tries) && decide (v.tries ≤ 1073741824)) || !(decide (0 ≤ v.due) && decide (v.due ≤ 1073741832))) = (decide (v.tries < 0) || (decide (1073741824 < v.tries) || (decide (v.due < 0) || decide (1073741832 < v.due)))) := by
    rw [Bool.eq_iff_iff]; simp; omega
  have hd : (if (!(recB v.write) || v.write.kind == 1) = true then false else fitsL v) = (v.write.kind != 1 && (recB v.write && fitsL v)) := by
    cases h : v.write.kind == 1 <;> cases recB v.write <;> simp [bne, h]
  rw [live9B, liveB, nothing_eq, hc, hd]
end Go.Rx
namespace Go.Proofs.YtfjllfjmggooeaaGreatDoor.Rx
open Go.Rx Go.Proofs Go.Proofs.YtfjllfjmggooeaaGreatDoor.RxH
theorem sagas9_con (l : List Saga) (hl : l.length * 96 ≤ 140737488351232) (hs : ∀ s ∈ l, s.Ok) : Con P 43 [.lf (.pv (encSagas l))] (Bl (togB l)) [] := by
  have hm : (l.map Saga.enc).length = l.length := List.length_map ..
  refine Con.of T_ok Tryz.func43 rfl (by kernel_rfl) (by kernel_rfl) (aw_of T_ok (by kernel_rfl) ?_)
  conv => whnf
  split <;> rename_i h0 <;> conv => whnf
  · have h0' : ¬ l.length ≤ 20 := by have : ((l.map Saga.enc).length : Int) > 20 := of_decide_eq_true h0
                                     omega
    exact finB ⟨by rw [togB, show decide (l.length ≤ 20) = false from decide_eq_false h0', Bool.and_false]⟩
  have h0' : l.length ≤ 20 := by have : ¬ ((l.map Saga.enc).length : Int) > 20 := of_decide_eq_false h0
                                 omega
  refine AW.loop (fun k : Nat => k ≤ l.length ∧ ∀ j, j < k → togAt l j = true) (fun k => [(0, .lf (.pv (encSagas l))), (3, Go.Rx.I k)]) (fun _ => []) (fun k => l.length - k) [] ?_ ?_
  · exact ⟨0, ⟨Nat.zero_le _, fun j hj => absurd hj (Nat.not_lt_zero _)⟩, ⟨rfl, rfl, trivial⟩, ⟨[], rfl⟩, rfl, rfl⟩
  rintro k ⟨hk, hpre⟩
  refine aw_of T_ok (by kernel_rfl) ?_
  conv => whnf
  split <;> rename_i hlt <;> conv => whnf
  · have hkl : k < l.length := by simpa using hlt
    have hrow : (l.map Saga.enc)[k]? = some (l[k]).enc := by simp [hkl]
    have hat := togAt_eq hkl
    have hsk := hs _ (List.getElem_mem hkl)
    have hid : ∀ (i : Nat) (s : Saga), (l.take k)[i]? = some s → s.id = i + 1 := fun i s hi => by
      have hik : i < k := by have := (List.getElem?_eq_some_iff.1 hi).1; rw [List.length_take] at this; omega
      have h1 := hpre i hik
      rw [List.getElem?_take_of_lt hik] at hi
      unfold togAt at h1
      rw [hi] at h1
      simp only [Bool.and_eq_true, beq_iff_eq] at h1
      rw [h1.2.1]; simp
    generalize l[k] = s at hrow hat hsk
    have no : togAt l k = false → false = togB l := fun h => by rw [togB, tog_no hkl h]; rfl
    refine AW.draw T_ok rfl (listPl [0, 1, 2, 3, 4, 5, 6, 7, 8, 9, 10, 11, 12, 13, 14, 15, 16, 17, 18, 20, 21, 22, 23, 24, 19, 25, 26, 27]) (by kernel_rfl) (by kernel_rfl) ?_
    conv => whnf
    refine ⟨by omega, s.enc, hrow, ?_⟩
    conv => whnf
    refine callS (saga9_con s hsk) rfl ?_
    conv => whnf
    split <;> rename_i h1 <;> conv => whnf
    · exact finB ⟨no (by rw [hat, show sagaB s = false by simpa using h1]; rfl)⟩
    have w1 : IntKind.i64.wrap ((k : Int) + 1) = ((k + 1 : Nat) : Int) := wrapI (by omega)
    refine ⟨by omega, s.enc, hrow, ?_⟩
    conv => whnf
    split <;> rename_i h2 <;> conv => whnf
    · refine finB ⟨no ?_⟩
      have h2' : (s.id != IntKind.i64.wrap ((k : Int) + 1)) = true := h2
      rw [w1] at h2'
      rw [hat, show (s.id == ((k + 1 : Nat) : Int)) = false by simpa using h2']
      simp
    have h2' : (s.id == ((k + 1 : Nat) : Int)) = true := by
      have h2' : (s.id != IntKind.i64.wrap ((k : Int) + 1)) = false := h2
      rw [w1] at h2'
      simpa using h2'
    refine ⟨by omega, s.enc, hrow, ?_⟩
    conv => whnf
    refine ⟨by decide, by omega, by rw [hm]; omega, ?_⟩
    conv => whnf
    have ck := find9_con (l.take k) s.key (by rw [List.length_take]; omega) hid
    rw [show encSagas (l.take k) = .sl 9 ((l.map Saga.enc).take k) by rw [encSagas, List.map_take]] at ck
    refine callS ck rfl ?_
    conv => whnf
    have hkn : -1 ≤ keyI (l.take k) s.key := idx_ge _ _
    split <;> rename_i h3 <;> conv => whnf
    · refine finB ⟨no ?_⟩
      have h3' : keyI (l.take k) s.key + 1 > 0 := of_decide_eq_true h3
      rw [hat, decide_eq_true (show 0 ≤ keyI (l.take k) s.key by omega)]
      simp
    have h3' : ¬ keyI (l.take k) s.key + 1 > 0 := of_decide_eq_false h3
    refine ⟨k + 1, ⟨⟨by omega, fun j hj => ?_⟩, by omega⟩, ⟨rfl, congrArg Go.Rx.I w1, trivial⟩, ⟨[], rfl⟩, rfl, rfl⟩
    rcases Nat.lt_or_ge j k with hjk | hjk
    · exact hpre j hjk
    · obtain rfl : j = k := by omega
      rw [hat, show sagaB s = true by simpa using h1, h2', decide_eq_false (show ¬ 0 ≤ keyI (l.take j) s.key by omega)]
      rfl
  · have hkl : k = l.length := by have : ¬ ((k : Int) < (l.length : Int)) := by simpa using hlt
                                  omega
    refine finB ⟨?_⟩
    rw [togB, tog_yes (fun j hj => hpre j (by omega)), Bool.true_and, decide_eq_true h0']
theorem outs16_con (l : List Int) (hl : l.length * 8 ≤ 140737488351232) : Con P 31 [.lf (.pv (encInts l))] (Bl (outsB l)) [] := by
  have hm : (l.map fun n => [pI n]).length = l.length := List.length_map ..
  have hq : outsB l = (decide ((l.length : Int) ≤ 400) && !(l.any outBad)) := rfl
  refine Con.of T_ok Tryz.func31 rfl (by kernel_rfl) (by kernel_rfl) (aw_of T_ok (by kernel_rfl) ?_)
  conv => whnf
  refine AW.loop (fun k : Nat => k ≤ l.length ∧ k ≤ 401 ∧ (l.take k).any outBad = false) (fun k => [(0, .lf (.pv (encInts l))), (3, Go.Rx.I k)]) (fun _ => []) (fun k => l.length - k) [] ?_ ?_
  · exact ⟨0, ⟨Nat.zero_le _, Nat.zero_le _, rfl⟩, ⟨rfl, rfl, trivial⟩, ⟨[], rfl⟩, rfl, rfl⟩
  rintro k ⟨hk, hk4, hpre⟩
  have fin : ¬ (k < l.length ∧ k ≤ 400) → decide ((l.length : Int) ≤ 400) = outsB l := fun h => by
    rw [hq]
    by_cases h4 : l.length ≤ 400
    · have : k = l.length := by omega
      rw [this, List.take_length] at hpre
      rw [hpre, Bool.not_false, Bool.and_true]
    · rw [decide_eq_false (by omega)]; rfl
  refine aw_of T_ok (by kernel_rfl) ?_
  conv => whnf
  split <;> rename_i hlt <;> conv => whnf
  · have hkl : k < l.length := by have : (k : Int) < ((l.map fun n => [pI n]).length : Int) := of_decide_eq_true hlt
                                  omega
    split <;> rename_i h4 <;> conv => whnf
    · have h4' : k ≤ 400 := by have : (k : Int) ≤ 400 := of_decide_eq_true h4
                               omega
      have hrow : (l.map fun n => [pI n])[k]? = some [pI l[k]] := by simp [hkl]
      have hnx : l.take (k + 1) = l.take k ++ [l[k]] := take_succ' hkl
      have hmem := List.getElem_mem hkl
      generalize l[k] = n at hrow hnx hmem
      refine ⟨by omega, _, hrow, ?_⟩
      conv => whnf
      refine callS (between_con n 0 3) rfl ?_
      conv => whnf
      split <;> rename_i h5 <;> conv => whnf
      · have h5' : outBad n = true := by
          have h6 : (!(decide (0 ≤ n) && decide (n ≤ 3))) = true := h5
          rw [outBad]; simp at h6 ⊢; omega
        refine finB ⟨?_⟩
        rw [hq, show l.any outBad = true from List.any_eq_true.2 ⟨n, hmem, h5'⟩]; simp
      · have h5' : outBad n = false := by
          have h6 : (!(decide (0 ≤ n) && decide (n ≤ 3))) = false := h5
          rw [outBad]; simp at h6 ⊢; omega
        exact ⟨k + 1, ⟨⟨hkl, by omega, by rw [hnx, List.any_append, hpre, List.any_cons, h5']; rfl⟩, by omega⟩, ⟨rfl, congrArg Go.Rx.I (wrapI (by omega)), trivial⟩, ⟨[], rfl⟩, rfl, rfl⟩
    · have h4' : ¬ k ≤ 400 := by have : ¬ (k : Int) ≤ 400 := of_decide_eq_false h4
                                 omega
      refine finB ⟨?_⟩
      rw [← fin (by omega), hm]
  · have hkl : ¬ k < l.length := by have : ¬ (k : Int) < ((l.map fun n => [pI n]).length : Int) := of_decide_eq_false hlt
                                    omega
    refine finB ⟨?_⟩
    rw [← fin (by omega), hm]
theorem sagas16_con (w : Wd) (hl : w.lives.length * 200 ≤ 140737488351232) : Con P 44 [encWd w] (.lf (.own 0 (sagasL w.lives).length)) [.arr 40 9 ((sagasL w.lives).map Saga.enc)] := by
  have hsl : ∀ m : List Live, (sagasL m).length = m.length := fun m => List.length_map ..
  have hlm : (w.lives.map Live.enc).length = w.lives.length := List.length_map ..
  refine ConG.con (ConG.of T_ok Tryz.func44 rfl (by kernel_rfl) (by kernel_rfl) (aw_of T_ok (by kernel_rfl) ?_)) rfl
  conv => whnf
  refine AW.loop (fun k : Nat => k ≤ w.lives.length) (fun k => [(1, .lf (.ptr 0 0)), (3, .lf (.own 1 (sagasL (w.lives.take k)).length)), (4, Go.Rx.I k)]) (fun k => [.var w.lfs, .arr 40 9 ((sagasL (w.lives.take k)).map Saga.enc)]) (fun k => w.lives.length - k) [.slot 3 40 9] ?_ ?_
  · exact ⟨rfl, 0, Nat.zero_le _, ⟨rfl, rfl, rfl, trivial⟩, ⟨[], rfl⟩, rfl, rfl⟩
  intro k hk
  refine aw_of T_ok (by kernel_rfl) ?_
  conv => whnf
  split <;> rename_i hlt <;> conv => whnf
  · have hkl : k < w.lives.length := by have : (k : Int) < ((w.lives.map Live.enc).length : Int) := of_decide_eq_true hlt
                                        omega
    have hnx : sagasL (w.lives.take (k + 1)) = sagasL (w.lives.take k) ++ [w.lives[k].saga] := by rw [sagasL, take_succ' hkl, List.map_append]; rfl
    refine ⟨by omega, (w.lives[k]).enc, by simp [hkl], ?_⟩
    conv => whnf
    refine ⟨rfl, _, .inl rfl, ?_⟩
    conv => whnf
    have hb := hsl (w.lives.take k)
    rw [List.length_take] at hb
    refine ⟨List.length_map .., by show ((sagasL (w.lives.take k)).length + 1) * 96 ≤ _; omega, ?_⟩
    conv => whnf
    refine ⟨k + 1, ⟨hkl, by omega⟩, ⟨rfl, ?zu, congrArg Go.Rx.I (wrapI (by omega)), trivial⟩, ⟨[?zr1], ?zb⟩, rfl, rfl⟩
    case zu => rw [hnx, List.length_append]; rfl
    case zb =>
      show _ = [_, Blk.arr _ 9 ((sagasL (w.lives.take (k + 1))).map Saga.enc)] ++ [_]
      rw [hnx, List.map_append]
      rfl
  · have hkl : w.lives.take k = w.lives := List.take_of_length_le (by have : ¬ (k : Int) < ((w.lives.map Live.enc).length : Int) := of_decide_eq_false hlt
                                                                      omega)
    rw [hkl]
    exact ⟨[], [1], [.lf (.own 0 (sagasL w.lives).length)], [.lf (.own 0 (sagasL w.lives).length)], rfl, rfl, rfl, wk_refl _, rfl⟩
theorem live16_con (v : Live) (hv : v.Ok) (hs : sagaB v.saga = true) : Con P 46 [encLive v] (Bl (liveB v)) [] := by
  have hlen := hv.write.steps.len
  have ce := eqRec_con v.write zRec hlen
  have cr := rec9_con v.write hv.write
  have ca := fun h => apply9_con v.saga v.write hv.saga hv.write hs h
  have hq : live9B v = if !(decide (0 ≤ v.tries) && decide (v.tries ≤ 1073741824)) || !(decide (0 ≤ v.due) && decide (v.due ≤ 1073741832)) then false
    else if decide (v.write = zRec) then !v.put else if !(recB v.write) || v.write.kind == 1 then false else fitsL v := rfl
  rw [← live9_eq]
  obtain ⟨q, he⟩ : ∃ q, q = live9B v := ⟨_, rfl⟩
  rw [← he] at hq ⊢
  have hf : recB v.write = true → fitsL v = ((applyS v.saga v.write).2 == 0) := fun h => by
    rw [apply9_same hs h, apply9S, fitsL]
    cases h1 : v.write.id == v.saga.id with
    | false => rw [if_pos (by rw [bne, h1]; rfl)]; rfl
    | true =>
      rw [if_neg (by rw [bne, h1]; decide)]
      cases h2 : (v.saga.status == 0 && fitsB v.saga v.write) with
      | true => rfl
      | false => rfl
  generalize decide (v.write = zRec) = b1 at ce hq
  generalize recB v.write = b2 at cr ca hq hf
  generalize fitsL v = b3 at hq hf
  generalize applyS v.saga v.write = x at ca hf
  refine Con.of T_ok Tryz.func46 rfl (by kernel_rfl) (by kernel_rfl) (aw_of T_ok (by kernel_rfl) ?_)
  conv => whnf
  refine callS (numB_con v.tries 1073741824) rfl ?_
  conv => whnf
  split <;> rename_i h1 <;> conv => whnf
  · have h1' : (!(decide (0 ≤ v.tries) && decide (v.tries ≤ 1073741824))) = true := h1
    exact finB ⟨by rw [hq, h1']; rfl⟩
  have h1' : (!(decide (0 ≤ v.tries) && decide (v.tries ≤ 1073741824))) = false := h1
  refine callS (numB_con v.due 1073741832) rfl ?_
  conv => whnf
  split <;> rename_i h2 <;> conv => whnf
  · have h2' : (!(decide (0 ≤ v.due) && decide (v.due ≤ 1073741832))) = true := h2
    exact finB ⟨by rw [hq, h1', h2']; rfl⟩
  have h2' : (!(decide (0 ≤ v.due) && decide (v.due ≤ 1073741832))) = false := h2
  rw [if_neg (by rw [h1', h2']; decide)] at hq
  refine callW ce ⟨.inl rfl, .inr (.inr ⟨_, _, rfl, rfl, wkE _, wkE _, wkE _, wkE _, wkE _, wkN 6, trivial⟩), trivial⟩ rfl ?_
  conv => whnf
  cases b1 with
  | true =>
    conv => whnf
    exact finB ⟨by rw [hq]; rfl⟩
  | false =>
  rw [if_neg (by decide)] at hq
  conv => whnf
  refine callS cr rfl ?_
  conv => whnf
  cases b2 with
  | false =>
    conv => whnf
    exact finB ⟨by rw [hq]; rfl⟩
  | true =>
  conv => whnf
  split <;> rename_i h4 <;> conv => whnf
  · have h4' : (v.write.kind == 1) = true := h4
    exact finB ⟨by rw [hq, h4']; rfl⟩
  have h4' : (v.write.kind == 1) = false := h4
  rw [h4', if_neg (by decide), hf rfl] at hq
  refine callU (ca rfl) (fun _ => rfl) ?_
  conv => whnf
  exact finB ⟨hq.symm⟩
end Go.Proofs.YtfjllfjmggooeaaGreatDoor.Rx

/- The page's look at a world: the whole. -/
set_option linter.unusedVariables false
set_option linter.unusedSimpArgs false
namespace Go.Rx
def num30 (n : Int) : Bool := decide (0 ≤ n) && decide (n ≤ 1073741824)
theorem worldB_eq (w : Wd) : worldB w = (num30 w.clock && (fileB w.file && (((w.ledgers.length : Int) == 4) && (togB (sagasL w.lives) && (outsB w.outs && (num30 w.taken && (ledgersGo w.ledgers 0 && w.lives.all liveB))))))) := by
  have h1 : num30 w.clock = !(decide (w.clock < 0) || decide (1073741824 < w.clock)) := by rw [num30, Bool.eq_iff_iff]; simp
  have h2 : num30 w.taken = !(decide (w.taken < 0) || decide (1073741824 < w.taken)) := by rw [num30, Bool.eq_iff_iff]; simp
  have h3 : outsB w.outs = !(decide (400 < (w.outs.length : Int)) || w.outs.any outBad) := by
    rw [outsB]
    cases w.outs.any outBad
    · rw [Bool.not_false, Bool.and_true, Bool.or_false, Bool.eq_iff_iff]; simp
    · simp
  have h4 : w.lives.all liveB = !(w.lives.any fun v => !(liveB v)) := by simp [List.all_eq_not_any_not]
  rw [worldB, h1, h2, h3, h4, ledgersB]
  generalize decide (w.clock < 0) = a1
  generalize decide (1073741824 < w.clock) = a2
  generalize decide (w.taken < 0) = a3
  generalize decide (1073741824 < w.taken) = a4
  generalize decide (400 < (w.outs.length : Int)) = a5
  generalize w.outs.any outBad = a6
  generalize fileB w.file = a7
  generalize ledgersGo w.ledgers 0 = a8
  generalize ((w.ledgers.length : Int) == 4) = a9
  generalize togB (sagasL w.lives) = b1
  generalize (w.lives.any fun v => !(liveB v)) = b2
  cases a1 <;> cases a2 <;> cases a3 <;> cases a4 <;> cases a5 <;> cases a6 <;> cases a7 <;> cases a8 <;> cases a9 <;> cases b1 <;> cases b2 <;> rfl
end Go.Rx
namespace Go.Proofs.YtfjllfjmggooeaaGreatDoor.Rx
open Go.Rx Go.Proofs Go.Proofs.YtfjllfjmggooeaaGreatDoor.RxH
theorem world16_con (w : Wd) (hw : w.Ok) : Con P 14 [encWd w] (Bl (worldB w)) [] := by
  have hgm : (w.ledgers.map Ledger.enc).length = w.ledgers.length := List.length_map ..
  have hlm : (w.lives.map Live.enc).length = w.lives.length := List.length_map ..
  have hsm : ((sagasL w.lives).map Saga.enc).length = (sagasL w.lives).length := List.length_map ..
  have hgl := hw.gl
  have hll := hw.ll
  have cf := file9_con w.file hw.file
  have cS := sagas16_con w hw.ll
  have cs := sagas9_con (sagasL w.lives) (by rw [sagasL, List.length_map]; have := hw.ll; omega) (fun s hs => by rw [sagasL, List.mem_map] at hs; obtain ⟨v, hv, rfl⟩ := hs; exact (hw.lives v hv).saga)
  have co := outs16_con w.outs hw.ol
  have hsg : togB (sagasL w.lives) = true → ∀ v ∈ w.lives, sagaB v.saga = true := fun h v hv => tog_saga h hv
  obtain ⟨q, hq⟩ : ∃ q, q = worldB w := ⟨_, rfl⟩
  rw [← hq]
  rw [worldB_eq] at hq
  generalize fileB w.file = b1 at cf hq
  generalize togB (sagasL w.lives) = b2 at cs hsg hq
  generalize outsB w.outs = b3 at co hq
  refine Con.of T_ok Tryz.func14 rfl (by kernel_rfl) (by kernel_rfl) (aw_of T_ok (by kernel_rfl) ?_)
  conv => whnf
  refine callS (numB_con w.clock 1073741824) rfl ?_
  conv => whnf
  split <;> rename_i h1 <;> conv => whnf
  · have h1' : num30 w.clock = false := by have h2 : (!(num30 w.clock)) = true := h1; simpa using h2
    exact finB ⟨by rw [hq, h1']; rfl⟩
  have h1' : num30 w.clock = true := by have h2 : (!(num30 w.clock)) = false := h1; simpa using h2
  rw [h1', Bool.true_and] at hq
  refine callS cf rfl ?_
  conv => whnf
  cases b1 with
  | false =>
    conv => whnf
    exact finB ⟨by rw [hq]; rfl⟩
  | true =>
  rw [Bool.true_and] at hq
  conv => whnf
  split <;> rename_i h2 <;> conv => whnf
  · have h2' : ((w.ledgers.length : Int) == 4) = false := by
      have h3 : (((w.ledgers.map Ledger.enc).length : Int) != 4) = true := h2
      rw [hgm] at h3; simpa using h3
    exact finB ⟨by rw [hq, h2']; rfl⟩
  have h2' : ((w.ledgers.length : Int) == 4) = true := by
    have h3 : (((w.ledgers.map Ledger.enc).length : Int) != 4) = false := h2
    rw [hgm] at h3; simpa using h3
  have hg4 : w.ledgers.length = 4 := by have : (w.ledgers.length : Int) = 4 := eq_of_beq h2'
                                        omega
  rw [h2', Bool.true_and] at hq
  refine ⟨_, _, _, wk_refl _, cS, .inr ?_⟩
  conv => whnf
  refine ⟨hsm, ?_⟩
  conv => whnf
  refine callS cs rfl ?_
  conv => whnf
  cases b2 with
  | false =>
    conv => whnf
    exact finB ⟨by rw [hq]; rfl⟩
  | true =>
  rw [Bool.true_and] at hq
  have hsg' := hsg rfl
  conv => whnf
  refine callS co rfl ?_
  conv => whnf
  cases b3 with
  | false =>
    conv => whnf
    exact finB ⟨by rw [hq]; rfl⟩
  | true =>
  rw [Bool.true_and] at hq
  conv => whnf
  refine callS (numB_con w.taken 1073741824) rfl ?_
  conv => whnf
  split <;> rename_i h3 <;> conv => whnf
  · have h3' : num30 w.taken = false := by have h4 : (!(num30 w.taken)) = true := h3; simpa using h4
    exact finB ⟨by rw [hq, h3']; rfl⟩
  have h3' : num30 w.taken = true := by have h4 : (!(num30 w.taken)) = false := h3; simpa using h4
  rw [h3', Bool.true_and] at hq
  refine AW.loop (fun k : Nat => k ≤ w.ledgers.length ∧ q = (ledgersGo (w.ledgers.drop k) k && w.lives.all liveB)) (fun k => [(1, .lf (.ptr 0 0)), (3, Go.Rx.I k)]) (fun _ => [.var w.lfs]) (fun k => w.ledgers.length - k) [] ?_ ?_
  · exact ⟨0, ⟨Nat.zero_le _, hq⟩, ⟨rfl, rfl, trivial⟩, ⟨[_], rfl⟩, rfl, rfl⟩
  rintro k ⟨hk, hpre⟩
  refine aw_of T_ok (by kernel_rfl) ?_
  conv => whnf
  split <;> rename_i hlt <;> conv => whnf
  · have hkl : k < w.ledgers.length := by have : (k : Int) < 4 := of_decide_eq_true hlt
                                          omega
    have hrow : (w.ledgers.map Ledger.enc)[k]? = some w.ledgers[k].enc := by simp [hkl]
    have hok := hw.ledgers w.ledgers[k] (List.getElem_mem hkl)
    rw [ledg_go hkl] at hpre
    generalize w.ledgers[k] = g at hrow hok hpre
    have wk : IntKind.i64.wrap ((k : Int) + 1) = ((k + 1 : Nat) : Int) := wrapI (by omega)
    have wk' : IntKind.i64.wrap (1 + (k : Int)) = ((k + 1 : Nat) : Int) := by rw [Int.add_comm]; exact wk
    refine ⟨by omega, _, hrow, ?_⟩
    conv => whnf
    split <;> rename_i h4 <;> conv => whnf
    · have h4' : (g.service == ((k + 1 : Nat) : Int)) = false := by
        have h5 : (g.service != IntKind.i64.wrap (1 + (k : Int))) = true := h4
        rw [wk'] at h5; simpa using h5
      exact finB ⟨by rw [hpre, h4']; rfl⟩
    have h4' : (g.service == ((k + 1 : Nat) : Int)) = true := by
      have h5 : (g.service != IntKind.i64.wrap (1 + (k : Int))) = false := h4
      rw [wk'] at h5; simpa using h5
    refine ⟨by omega, _, hrow, ?_⟩
    conv => whnf
    refine callS (ledger9_con g hok) rfl ?_
    conv => whnf
    split <;> rename_i h5 <;> conv => whnf
    · have h5' : ledgerB g = false := by simpa using h5
      exact finB ⟨by rw [hpre, h4', h5']; rfl⟩
    · have h5' : ledgerB g = true := by simpa using h5
      rw [h4', h5', Bool.true_and, Bool.true_and] at hpre
      exact ⟨k + 1, ⟨⟨hkl, hpre⟩, by omega⟩, ⟨rfl, congrArg Go.Rx.I wk, trivial⟩, ⟨[], rfl⟩, rfl, rfl⟩
  · have hkl : w.ledgers.length ≤ k := by have : ¬ (k : Int) < 4 := of_decide_eq_false hlt
                                          omega
    rw [List.drop_of_length_le hkl] at hpre
    have hpre' : q = w.lives.all liveB := hpre.trans (Bool.true_and _)
    refine AW.loop (fun k : Nat => k ≤ w.lives.length ∧ q = (w.lives.drop k).all liveB) (fun k => [(1, .lf (.ptr 0 0)), (4, Go.Rx.I k)]) (fun _ => [.var w.lfs]) (fun k => w.lives.length - k) [] ?_ ?_
    · exact ⟨0, ⟨Nat.zero_le _, hpre'⟩, ⟨rfl, rfl, trivial⟩, ⟨[], rfl⟩, rfl, rfl⟩
    rintro k ⟨hk, hpre⟩
    refine aw_of T_ok (by kernel_rfl) ?_
    conv => whnf
    split <;> rename_i hlt <;> conv => whnf
    · have hkl : k < w.lives.length := by have : (k : Int) < ((w.lives.map Live.enc).length : Int) := of_decide_eq_true hlt
                                          omega
      have hrow : (w.lives.map Live.enc)[k]? = some w.lives[k].enc := by simp [hkl]
      have hok := hw.lives w.lives[k] (List.getElem_mem hkl)
      have hs1 := hsg' w.lives[k] (List.getElem_mem hkl)
      rw [List.drop_eq_getElem_cons hkl, List.all_cons] at hpre
      generalize w.lives[k] = v at hrow hok hs1 hpre
      refine ⟨by omega, _, hrow, ?_⟩
      conv => whnf
      refine callS (live16_con v hok hs1) rfl ?_
      conv => whnf
      split <;> rename_i h5 <;> conv => whnf
      · have h5' : liveB v = false := by simpa using h5
        exact finB ⟨by rw [hpre, h5']; rfl⟩
      · have h5' : liveB v = true := by simpa using h5
        rw [h5', Bool.true_and] at hpre
        exact ⟨k + 1, ⟨⟨hkl, hpre⟩, by omega⟩, ⟨rfl, congrArg Go.Rx.I (wrapI (by omega)), trivial⟩, ⟨[], rfl⟩, rfl, rfl⟩
    · have hkl : w.lives.length ≤ k := by have : ¬ (k : Int) < ((w.lives.map Live.enc).length : Int) := of_decide_eq_false hlt
                                          omega
      rw [List.drop_of_length_le hkl] at hpre
      exact finB ⟨by rw [hpre]; rfl⟩
end Go.Proofs.YtfjllfjmggooeaaGreatDoor.Rx

/- Worlds with a saga that are made, ticks, and counts. -/
set_option linter.unusedVariables false
set_option linter.unusedSimpArgs false
namespace Go.Rx
def cntE : List Entry → Int × Int → Int × Int
  | [], p => p
  | e :: l, p => cntE l (if e.back then (p.1, IntKind.i64.wrap (p.2 + 1)) else (IntKind.i64.wrap (p.1 + 1), p.2))
def cntL : List Ledger → Int × Int → Int × Int
  | [], p => p
  | g :: l, p => cntL l (cntE g.entries p)
def countsW (w : Wd) : Int × Int := cntL w.ledgers (0, 0)
theorem cntE_go {l : List Entry} {k : Nat} {p : Int × Int} (h : k < l.length) : cntE (l.drop k) p = cntE (l.drop (k + 1)) (if l[k].back then (p.1, IntKind.i64.wrap (p.2 + 1)) else (IntKind.i64.wrap (p.1 + 1), p.2)) := by rw [List.drop_eq_getElem_cons h, cntE]
theorem cntE_end {l : List Entry} {k : Nat} {p : Int × Int} (h : l.length ≤ k) : cntE (l.drop k) p = p := by rw [List.drop_of_length_le h, cntE]
theorem cntL_go {l : List Ledger} {k : Nat} {p : Int × Int} (h : k < l.length) : cntL (l.drop k) p = cntL (l.drop (k + 1)) (cntE l[k].entries p) := by rw [List.drop_eq_getElem_cons h, cntL]
theorem cntL_end {l : List Ledger} {k : Nat} {p : Int × Int} (h : l.length ≤ k) : cntL (l.drop k) p = p := by rw [List.drop_of_length_le h, cntL]
abbrev wdB (p : Wd × Bool) : AV := .tup [.agg p.1.lfs, .lf (.pv (pB p.2))]
theorem finWBo {w : Wd} {b : Bool} {q : Wd × Bool} (h : Fin (w, b) q) : ∃ zs, Fa WkA [.agg w.lfs, Bl b] zs ∧ pack zs = some (wdB q) := ⟨_, wk_refl _, by rw [← h.out]; rfl⟩
def tickOk (w : Wd) : Bool := (tickWd w).2 == 0 && (worldB (tickWd w).1 && ((tickWd w).1.lives.length == w.lives.length))
def ticksW : Nat → Wd → Wd × Bool
  | 0, w => (w, true)
  | k + 1, w => if tickOk w then ticksW k (tickWd w).1 else (w, false)
/-- Ticks may be made: no step on the way fails. -/
structure TickIn (w : Wd) : Prop where
  ok : w.Ok
  go : worldB w = true → w.clock < 1073741824 → GoOk 2000 { w with clock := IntKind.i64.wrap (w.clock + 1) }
  out : (tickWd w).2 = 0 → (tickWd w).1.Ok
def TicksIn : Nat → Wd → Prop
  | 0, _ => True
  | k + 1, w => TickIn w ∧ (tickOk w = true → TicksIn k (tickWd w).1)
def opA (i : Nat) : ByteArray := if i % 4 = 0 then ⟨#[99, 114, 101, 100, 105, 116]⟩ else if i % 4 = 1 then ⟨#[116, 97, 107, 101]⟩ else if i % 4 = 2 then ⟨#[98, 111, 111, 107]⟩ else ⟨#[114, 101, 99, 97, 108, 108]⟩
def opB (i : Nat) : ByteArray := if i % 4 = 0 then ⟨#[100, 101, 98, 105, 116]⟩ else if i % 4 = 1 then ⟨#[112, 117, 116]⟩ else if i % 4 = 2 then ⟨#[99, 97, 110, 99, 101, 108]⟩ else ⟨#[115, 101, 110, 100]⟩
def madeStep (i : Nat) : Step := ⟨bytesOf [byteZ (IntKind.i64.wrap (97 + (i : Int)))], IntKind.i64.wrap (1 + (i : Int) % 4), opA i, opB i, ⟨#[119]⟩, IntKind.i64.wrap (1 + (i : Int))⟩
def madeR (n : Nat) : Rec := ⟨1, 1, 0, ⟨#[107]⟩, ⟨#[98]⟩, (List.range n).map madeStep⟩
def madeX (n : Nat) (outs : List Int) : Wd × Int := beginWd (newWd 9000 outs).1 (madeR n)
def madeW (n : Nat) (outs : List Int) : Wd × Bool := ((madeX n outs).1, (newWd 9000 outs).2 == 0 && ((madeX n outs).2 == 0 && (worldB (madeX n outs).1 && ((madeX n outs).1.lives.length == 1))))
theorem opA_size (i : Nat) : (opA i).size ≤ 6 := by
  unfold opA; repeat' split
  all_goals decide
theorem opB_size (i : Nat) : (opB i).size ≤ 6 := by
  unfold opB; repeat' split
  all_goals decide
theorem madeR_ok (n : Nat) (hn : n ≤ 100) : (madeR n).Ok := ⟨by show (1 : Nat) ≤ _; omega, by show (1 : Nat) ≤ _; omega, by show ((List.range n).map madeStep).length * 80 ≤ _; rw [List.length_map, List.length_range]; omega, fun x hx => by
  obtain ⟨i, _, rfl⟩ := List.mem_map.1 (show x ∈ (List.range n).map madeStep from hx)
  exact ⟨by show (1 : Nat) ≤ _; omega, by show (opA i).size ≤ _; have := opA_size i; omega, by show (opB i).size ≤ _; have := opB_size i; omega, by show (1 : Nat) ≤ _; omega⟩⟩
theorem zWd_ok : zWd.Ok := ⟨⟨by show (0 : Nat) ≤ _; omega, by show (0 : Nat) ≤ _; omega⟩, by show (0 : Nat) ≤ _; omega, by show (0 : Nat) ≤ _; omega, by show (0 : Nat) ≤ _; omega, fun g hg => (by cases hg), fun v hv => (by cases hv)⟩
theorem newWd_ok (size : Int) (outs : List Int) : (newWd size outs).1.Ok := by
  unfold newWd
  split
  · split
    · rename_i h
      exact (worldB_iff.1 h).wok
    · exact zWd_ok
  · exact zWd_ok
abbrev madeB (p : Wd) (i n : Nat) : List Blk := [.var zWdV, .var p.lfs, .var [.pv (pI 1), .pv (pI 1), .pv (pI 0), .pv (pS ⟨#[107]⟩), .pv (pS ⟨#[98]⟩), .own 3 ((List.range i).map madeStep).length], .arr n 6 (((List.range i).map madeStep).map Step.enc)]
theorem madeB_eq {i : Nat} {st : List PV} {ty : Nat} (h : st = (madeStep i).enc) (x y z u a b : Blk) :
    [a, b, Blk.var [.pv (pI 1), .pv (pI 1), .pv (pI 0), .pv (pS ⟨#[107]⟩), .pv (pS ⟨#[98]⟩), .own 3 (((List.range i).map madeStep).length + 1)], .arr ty 6 (((List.range i).map madeStep).map Step.enc ++ [st]), x, y, z, u] =
      [a, b, .var [.pv (pI 1), .pv (pI 1), .pv (pI 0), .pv (pS ⟨#[107]⟩), .pv (pS ⟨#[98]⟩), .own 3 ((List.range (i + 1)).map madeStep).length], .arr ty 6 (((List.range (i + 1)).map madeStep).map Step.enc)] ++ [x, y, z, u] := by
  rw [h, List.range_succ, List.map_append, List.map_append, List.length_append]
  rfl
end Go.Rx
namespace Go.Proofs.YtfjllfjmggooeaaGreatDoor.Rx
open Go.Rx Go.Proofs Go.Proofs.YtfjllfjmggooeaaGreatDoor.RxH
theorem num16_con (n : Int) : Con P 20 [Go.Rx.I n] (Go.Rx.I n) [] := by
  refine Con.of T_ok Tryz.func20 rfl (by kernel_rfl) (by kernel_rfl) (aw_of T_ok (by kernel_rfl) ?_)
  conv => whnf
  exact finI ⟨rfl⟩
theorem counts_con (w : Wd) (hw : w.Ok) : Con P 26 [encWd w] (pairI (countsW w)) [] := by
  have hgm : (w.ledgers.map Ledger.enc).length = w.ledgers.length := List.length_map ..
  have hgl := hw.gl
  obtain ⟨q, hq⟩ : ∃ q, q = countsW w := ⟨_, rfl⟩
  rw [← hq]
  rw [countsW] at hq
  refine Con.of T_ok Tryz.func26 rfl (by kernel_rfl) (by kernel_rfl) (aw_of T_ok (by kernel_rfl) ?_)
  conv => whnf
  refine AW.loop (fun p : Nat × Int × Int => p.1 ≤ w.ledgers.length ∧ q = cntL (w.ledgers.drop p.1) p.2) (fun p => [(1, .lf (.ptr 0 0)), (4, Go.Rx.I p.2.1), (5, Go.Rx.I p.2.2), (6, Go.Rx.I p.1)]) (fun _ => [.var w.lfs]) (fun p => w.ledgers.length - p.1) [] ?_ ?_
  · exact ⟨(0, 0, 0), ⟨Nat.zero_le _, hq⟩, ⟨rfl, rfl, rfl, rfl, trivial⟩, ⟨[], rfl⟩, rfl, rfl⟩
  rintro ⟨k, a, b⟩ ⟨hk, hpre⟩
  simp only at hk hpre
  refine aw_of T_ok (by kernel_rfl) ?_
  conv => whnf
  split <;> rename_i hlt <;> conv => whnf
  · have hkl : k < w.ledgers.length := by have : (k : Int) < ((w.ledgers.map Ledger.enc).length : Int) := of_decide_eq_true hlt
                                          omega
    have hrow : (w.ledgers.map Ledger.enc)[k]? = some w.ledgers[k].enc := by simp [hkl]
    have hok := hw.ledgers w.ledgers[k] (List.getElem_mem hkl)
    rw [cntL_go hkl] at hpre
    generalize w.ledgers[k] = g at hrow hok hpre
    have hel := hok.el
    have hem : (g.entries.map Entry.enc).length = g.entries.length := List.length_map ..
    refine AW.loop (fun p : Nat × Int × Int => p.1 ≤ g.entries.length ∧ q = cntL (w.ledgers.drop (k + 1)) (cntE (g.entries.drop p.1) p.2)) (fun p => [(1, .lf (.ptr 0 0)), (4, Go.Rx.I p.2.1), (5, Go.Rx.I p.2.2), (6, Go.Rx.I k), (7, Go.Rx.I p.1)]) (fun _ => [.var w.lfs]) (fun p => g.entries.length - p.1) [] ?_ ?_
    · exact ⟨(0, a, b), ⟨Nat.zero_le _, hpre⟩, ⟨rfl, rfl, rfl, rfl, rfl, trivial⟩, ⟨[], rfl⟩, rfl, rfl⟩
    rintro ⟨j, c, d⟩ ⟨hj, hpre⟩
    simp only at hj hpre
    refine aw_of T_ok (by kernel_rfl) ?_
    conv => whnf
    refine ⟨by omega, _, hrow, ?_⟩
    conv => whnf
    split <;> rename_i hlt2 <;> conv => whnf
    · have hjl : j < g.entries.length := by have : (j : Int) < ((g.entries.map Entry.enc).length : Int) := of_decide_eq_true hlt2
                                            omega
      have hrow2 : (g.entries.map Entry.enc)[j]? = some g.entries[j].enc := by simp [hjl]
      rw [cntE_go hjl] at hpre
      generalize g.entries[j] = e at hrow2 hpre
      have wj : IntKind.i64.wrap ((j : Int) + 1) = ((j + 1 : Nat) : Int) := wrapI (by omega)
      refine ⟨by omega, _, hrow, ?_⟩
      conv => whnf
      refine ⟨by omega, _, hrow2, ?_⟩
      conv => whnf
      split <;> rename_i hb <;> conv => whnf
      · rw [if_pos hb] at hpre
        exact ⟨(j + 1, c, _), ⟨⟨hjl, hpre⟩, by show g.entries.length - (j + 1) < g.entries.length - j; omega⟩, ⟨rfl, rfl, rfl, rfl, congrArg Go.Rx.I wj, trivial⟩, ⟨[], rfl⟩, rfl, rfl⟩
      · rw [if_neg (by rw [show e.back = false from hb]; decide)] at hpre
        exact ⟨(j + 1, _, d), ⟨⟨hjl, hpre⟩, by show g.entries.length - (j + 1) < g.entries.length - j; omega⟩, ⟨rfl, rfl, rfl, rfl, congrArg Go.Rx.I wj, trivial⟩, ⟨[], rfl⟩, rfl, rfl⟩
    · have hjl : g.entries.length ≤ j := by have : ¬ (j : Int) < ((g.entries.map Entry.enc).length : Int) := of_decide_eq_false hlt2
                                            omega
      rw [cntE_end hjl] at hpre
      exact ⟨(k + 1, c, d), ⟨⟨hkl, hpre⟩, by show w.ledgers.length - (k + 1) < w.ledgers.length - k; omega⟩, ⟨rfl, rfl, rfl, congrArg Go.Rx.I (wrapI (by omega)), trivial⟩, ⟨[], rfl⟩, rfl, rfl⟩
  · have hkl : w.ledgers.length ≤ k := by have : ¬ (k : Int) < ((w.ledgers.map Ledger.enc).length : Int) := of_decide_eq_false hlt
                                          omega
    rw [cntL_end hkl] at hpre
    exact ⟨_, wk_refl _, by rw [hpre]; rfl⟩
theorem ticks_con (n : Nat) (w : Wd) (hn : n ≤ 100000) (h : TicksIn n w) : Con P 25 [encWd w, Go.Rx.I n] (wdB (ticksW n w)) [] := by
  obtain ⟨q, hq⟩ : ∃ q, q = ticksW n w := ⟨_, rfl⟩
  rw [← hq]
  refine Con.of T_ok Tryz.func25 rfl (by kernel_rfl) (by kernel_rfl) (aw_of T_ok (by kernel_rfl) ?_)
  conv => whnf
  refine AW.loop (fun p : Nat × Wd => p.1 ≤ n ∧ TicksIn (n - p.1) p.2 ∧ q = ticksW (n - p.1) p.2) (fun p => [(1, Go.Rx.I n), (2, .lf (.ptr 0 0)), (4, .lf (.ptr 1 0)), (6, Go.Rx.I p.1)]) (fun p => [.var p.2.lfs, .var zWdV]) (fun p => n - p.1) [] ?_ ?_
  · exact ⟨(0, w), ⟨Nat.zero_le _, h, hq⟩, ⟨rfl, rfl, rfl, rfl, trivial⟩, ⟨[], rfl⟩, rfl, rfl⟩
  rintro ⟨k, x⟩ ⟨hk, hin, hpre⟩
  simp only at hk hin hpre
  refine aw_of T_ok (by kernel_rfl) ?_
  conv => whnf
  split <;> rename_i hlt <;> conv => whnf
  · have hkl : k < n := by have := of_decide_eq_true hlt; omega
    have e : n - k = (n - (k + 1)) + 1 := by omega
    rw [e] at hin hpre
    obtain ⟨ht, hgo⟩ := hin
    have ct := tickWd_con x ht.ok ht.go
    have c16 := fun he => world16_con (tickWd x).1 (ht.out he)
    rw [ticksW] at hpre
    have hto : tickOk x = ((tickWd x).2 == 0 && (worldB (tickWd x).1 && ((tickWd x).1.lives.length == x.lives.length))) := rfl
    generalize tickWd x = y at ct c16 hpre hgo hto
    obtain ⟨y, er⟩ := y
    simp only at c16 hpre hto hgo
    generalize worldB y = wb at c16 hto
    refine callU ct (fun _ => rfl) ?_
    conv => whnf
    refine callS (num16_con er) rfl ?_
    conv => whnf
    split <;> rename_i h1 <;> conv => whnf
    · have h1' : (er == 0) = false := by have h2 : (er != 0) = true := h1; simpa using h2
      rw [h1'] at hto
      exact finWBo ⟨by rw [hpre, if_neg (by rw [hto]; simp)]⟩
    have h1' : (er == 0) = true := by have h2 : (er != 0) = false := h1; simpa using h2
    rw [h1', Bool.true_and] at hto
    refine callS (c16 (eq_of_beq h1')) rfl ?_
    conv => whnf
    cases wb with
    | false =>
      conv => whnf
      exact finWBo ⟨by rw [hpre, if_neg (by rw [hto]; simp)]⟩
    | true =>
    rw [Bool.true_and] at hto
    conv => whnf
    split <;> rename_i h3 <;> conv => whnf
    · have h3' : tickOk x = false := by
        have h4 : (((y.lives.map Live.enc).length : Int) != ((x.lives.map Live.enc).length : Int)) = true := h3
        rw [List.length_map, List.length_map] at h4
        rw [hto]; simp at h4 ⊢; omega
      exact finWBo ⟨by rw [hpre, if_neg (by rw [h3']; simp)]⟩
    · have h3' : tickOk x = true := by
        have h4 : (((y.lives.map Live.enc).length : Int) != ((x.lives.map Live.enc).length : Int)) = false := h3
        rw [List.length_map, List.length_map] at h4
        rw [hto]; simp at h4 ⊢; omega
      rw [if_pos h3'] at hpre
      exact ⟨(k + 1, y), ⟨⟨hkl, hgo h3', hpre⟩, by show n - (k + 1) < n - k; omega⟩, ⟨rfl, rfl, rfl, congrArg Go.Rx.I (wrapI (by omega)), trivial⟩, ⟨[_], rfl⟩, rfl, rfl⟩
  · have hkl : n ≤ k := by have := of_decide_eq_false hlt; omega
    have e : n - k = 0 := by omega
    rw [e, ticksW] at hpre
    exact finWBo ⟨hpre.symm⟩
theorem made_con (n : Nat) (hn : n ≤ 100) (outs : List Int) (ho : outs.length * 8 ≤ 140737488351232) (hx : (madeX n outs).1.Ok) : Con P 24 [Go.Rx.I n, .lf (.pv (encInts outs))] (wdB (madeW n outs)) [] := by
  have cn := newWd_con 9000 outs ho
  have cb := beginWd_con (newWd 9000 outs).1 (newWd_ok 9000 outs) (madeR n) (madeR_ok n hn)
  have cw := world16_con (madeX n outs).1 hx
  have hq : madeW n outs = ((madeX n outs).1, (newWd 9000 outs).2 == 0 && ((madeX n outs).2 == 0 && (worldB (madeX n outs).1 && ((madeX n outs).1.lives.length == 1)))) := rfl
  have hX : madeX n outs = beginWd (newWd 9000 outs).1 (madeR n) := rfl
  rw [← hX] at cb
  obtain ⟨q, he⟩ : ∃ q, q = madeW n outs := ⟨_, rfl⟩
  rw [← he] at hq ⊢
  clear hX hx
  generalize madeX n outs = x at cb cw hq
  generalize newWd 9000 outs = p at cn cb hq
  obtain ⟨p, e1⟩ := p
  obtain ⟨x, e2⟩ := x
  simp only at cb cw hq
  generalize worldB x = wb at cw hq
  refine Con.of T_ok Tryz.func24 rfl (by kernel_rfl) (by kernel_rfl) (aw_of T_ok (by kernel_rfl) ?_)
  conv => whnf
  refine callU cn (fun _ => rfl) ?_
  conv => whnf
  refine AW.loop (fun i : Nat => i ≤ n) (fun i => [(0, Go.Rx.I n), (4, .lf (.ptr 0 0)), (6, .lf (.ptr 1 0)), (7, Go.Rx.I e1), (8, .lf (.ptr 2 0)), (9, Go.Rx.I i)]) (fun i => madeB p i 99) (fun i => n - i) [.cell 2 5 99 6] ?_ ?_
  · exact ⟨rfl, 0, Nat.zero_le _, ⟨rfl, rfl, rfl, rfl, rfl, rfl, trivial⟩, ⟨[], rfl⟩, rfl, rfl⟩
  intro i hi
  have hTl : ((List.range i).map madeStep).length = i := by rw [List.length_map, List.length_range]
  have hTm : (((List.range i).map madeStep).map Step.enc).length = ((List.range i).map madeStep).length := List.length_map ..
  refine aw_of T_ok (by kernel_rfl) ?_
  conv => whnf
  split <;> rename_i hlt <;> conv => whnf
  · have hil : i < n := by have := of_decide_eq_true hlt; omega
    have wi : IntKind.i64.wrap ((i : Int) + 1) = ((i + 1 : Nat) : Int) := wrapI (by omega)
    have hm4 : 0 ≤ (i : Int) % 4 ∧ (i : Int) % 4 < ((4 : Nat) : Int) := by omega
    have h4 : i % 4 = 0 ∨ i % 4 = 1 ∨ i % 4 = 2 ∨ i % 4 = 3 := by omega
    have h4' : ((i : Int) % 4).toNat = i % 4 := by omega
    have hs1 : ([[pS ⟨#[99, 114, 101, 100, 105, 116]⟩], [pS ⟨#[116, 97, 107, 101]⟩], [pS ⟨#[98, 111, 111, 107]⟩], [pS ⟨#[114, 101, 99, 97, 108, 108]⟩]] : List (List PV))[((i : Int) % 4).toNat]? = some [pS (opA i)] := by
      rw [h4']; unfold opA
      rcases h4 with h | h | h | h <;> rw [h] <;> rfl
    have hs2 : ([[pS ⟨#[100, 101, 98, 105, 116]⟩], [pS ⟨#[112, 117, 116]⟩], [pS ⟨#[99, 97, 110, 99, 101, 108]⟩], [pS ⟨#[115, 101, 110, 100]⟩]] : List (List PV))[((i : Int) % 4).toNat]? = some [pS (opB i)] := by
      rw [h4']; unfold opB
      rcases h4 with h | h | h | h <;> rw [h] <;> rfl
    have hz : [[PV.sc (.int .u8 (IntKind.u8.wrap (IntKind.i64.wrap (97 + (i : Int)))))]] = byteRows (bytesOf [byteZ (IntKind.i64.wrap (97 + (i : Int)))]) := by rw [byteZ_wrap]; rfl
    have hsn : [pS (bytesOf [byteZ (IntKind.i64.wrap (97 + (i : Int)))]), pI (IntKind.i64.wrap (1 + (i : Int) % 4)), pS (opA i), pS (opB i), pS ⟨#[119]⟩, pI (IntKind.i64.wrap (1 + (i : Int)))] = (madeStep i).enc := rfl
    generalize opA i = s1 at hs1 hsn
    generalize opB i = s2 at hs2 hsn
    generalize bytesOf [byteZ (IntKind.i64.wrap (97 + (i : Int)))] = nm at hz hsn
    refine AW.draw T_ok rfl (.one 0 (.one 1 (.one 2 (.one 3 (.one 4 (.one 7 (.one 8 (.one 9 (.one 11 (.one 12 (.one 16 (.one 17 (.one 20 (.one 21 (.three 5 (.one 6 (.two 10 (listPl [13, 14, 15, 18, 19, 22, 23, 24, 25, 26]) 15 (listPl [18, 19, 10, 13, 14, 22, 23, 24, 25, 26])))
      10 (.one 13 (.one 14 (.two 5 (listPl [6, 15, 18, 19, 22, 23, 24, 25, 26]) 15 (listPl [18, 19, 5, 6, 22, 23, 24, 25, 26])))) 15 (.one 18 (.one 19 (.two 5 (listPl [6, 10, 13, 14, 22, 23, 24, 25, 26]) 10 (listPl [13, 14, 5, 6, 22, 23, 24, 25, 26]))))))))))))))))))) (by kernel_rfl) (by kernel_rfl) ?_
    conv => whnf
    refine .inl ⟨by omega, by decide, by omega, ?_⟩
    conv => whnf
    refine .inl ⟨by omega, by decide, by omega, ?_⟩
    conv => whnf
    refine .inl ⟨by omega, by decide, by omega, ?_⟩
    conv => whnf
    refine ⟨?_, ?_, ?_⟩ <;> conv => whnf
    · refine ⟨rfl, _, hz, ?_⟩
      conv => whnf
      refine ⟨?_, ?_⟩ <;> conv => whnf
      · refine ⟨rfl, hm4.1, hm4.2, ?_⟩
        conv => whnf
        refine ⟨rfl, rfl, _, hs1, ?_⟩
        conv => whnf
        refine ⟨rfl, hm4.1, hm4.2, ?_⟩
        conv => whnf
        refine ⟨rfl, rfl, _, hs2, ?_⟩
        conv => whnf
        refine ⟨rfl, _, .inl rfl, ?_⟩
        conv => whnf
        refine ⟨hTm, by show (((List.range i).map madeStep).length + 1) * 80 ≤ _; rw [hTl]; omega, ?_⟩
        conv => whnf
        refine ⟨i + 1, ⟨hil, by omega⟩, ⟨rfl, rfl, rfl, rfl, rfl, congrArg Go.Rx.I wi, trivial⟩, ⟨[?x1a, ?x1b, ?x1c, ?x1d], ?x1e⟩, rfl, rfl⟩
        case x1e => exact madeB_eq hsn _ _ _ _ _ _
      · refine ⟨rfl, hm4.1, hm4.2, ?_⟩
        conv => whnf
        refine ⟨rfl, rfl, _, hs2, ?_⟩
        conv => whnf
        refine ⟨rfl, hm4.1, hm4.2, ?_⟩
        conv => whnf
        refine ⟨rfl, rfl, _, hs1, ?_⟩
        conv => whnf
        refine ⟨rfl, _, .inl rfl, ?_⟩
        conv => whnf
        refine ⟨hTm, by show (((List.range i).map madeStep).length + 1) * 80 ≤ _; rw [hTl]; omega, ?_⟩
        conv => whnf
        refine ⟨i + 1, ⟨hil, by omega⟩, ⟨rfl, rfl, rfl, rfl, rfl, congrArg Go.Rx.I wi, trivial⟩, ⟨[?x2a, ?x2b, ?x2c, ?x2d], ?x2e⟩, rfl, rfl⟩
        case x2e => exact madeB_eq hsn _ _ _ _ _ _
    · refine ⟨rfl, hm4.1, hm4.2, ?_⟩
      conv => whnf
      refine ⟨rfl, rfl, _, hs1, ?_⟩
      conv => whnf
      refine ⟨?_, ?_⟩ <;> conv => whnf
      · refine ⟨rfl, _, hz, ?_⟩
        conv => whnf
        refine ⟨rfl, hm4.1, hm4.2, ?_⟩
        conv => whnf
        refine ⟨rfl, rfl, _, hs2, ?_⟩
        conv => whnf
        refine ⟨rfl, _, .inl rfl, ?_⟩
        conv => whnf
        refine ⟨hTm, by show (((List.range i).map madeStep).length + 1) * 80 ≤ _; rw [hTl]; omega, ?_⟩
        conv => whnf
        refine ⟨i + 1, ⟨hil, by omega⟩, ⟨rfl, rfl, rfl, rfl, rfl, congrArg Go.Rx.I wi, trivial⟩, ⟨[?x3a, ?x3b, ?x3c, ?x3d], ?x3e⟩, rfl, rfl⟩
        case x3e => exact madeB_eq hsn _ _ _ _ _ _
      · refine ⟨rfl, hm4.1, hm4.2, ?_⟩
        conv => whnf
        refine ⟨rfl, rfl, _, hs2, ?_⟩
        conv => whnf
        refine ⟨rfl, _, hz, ?_⟩
        conv => whnf
        refine ⟨rfl, _, .inl rfl, ?_⟩
        conv => whnf
        refine ⟨hTm, by show (((List.range i).map madeStep).length + 1) * 80 ≤ _; rw [hTl]; omega, ?_⟩
        conv => whnf
        refine ⟨i + 1, ⟨hil, by omega⟩, ⟨rfl, rfl, rfl, rfl, rfl, congrArg Go.Rx.I wi, trivial⟩, ⟨[?x4a, ?x4b, ?x4c, ?x4d], ?x4e⟩, rfl, rfl⟩
        case x4e => exact madeB_eq hsn _ _ _ _ _ _
    · refine ⟨rfl, hm4.1, hm4.2, ?_⟩
      conv => whnf
      refine ⟨rfl, rfl, _, hs2, ?_⟩
      conv => whnf
      refine ⟨?_, ?_⟩ <;> conv => whnf
      · refine ⟨rfl, _, hz, ?_⟩
        conv => whnf
        refine ⟨rfl, hm4.1, hm4.2, ?_⟩
        conv => whnf
        refine ⟨rfl, rfl, _, hs1, ?_⟩
        conv => whnf
        refine ⟨rfl, _, .inl rfl, ?_⟩
        conv => whnf
        refine ⟨hTm, by show (((List.range i).map madeStep).length + 1) * 80 ≤ _; rw [hTl]; omega, ?_⟩
        conv => whnf
        refine ⟨i + 1, ⟨hil, by omega⟩, ⟨rfl, rfl, rfl, rfl, rfl, congrArg Go.Rx.I wi, trivial⟩, ⟨[?x5a, ?x5b, ?x5c, ?x5d], ?x5e⟩, rfl, rfl⟩
        case x5e => exact madeB_eq hsn _ _ _ _ _ _
      · refine ⟨rfl, hm4.1, hm4.2, ?_⟩
        conv => whnf
        refine ⟨rfl, rfl, _, hs1, ?_⟩
        conv => whnf
        refine ⟨rfl, _, hz, ?_⟩
        conv => whnf
        refine ⟨rfl, _, .inl rfl, ?_⟩
        conv => whnf
        refine ⟨hTm, by show (((List.range i).map madeStep).length + 1) * 80 ≤ _; rw [hTl]; omega, ?_⟩
        conv => whnf
        refine ⟨i + 1, ⟨hil, by omega⟩, ⟨rfl, rfl, rfl, rfl, rfl, congrArg Go.Rx.I wi, trivial⟩, ⟨[?x6a, ?x6b, ?x6c, ?x6d], ?x6e⟩, rfl, rfl⟩
        case x6e => exact madeB_eq hsn _ _ _ _ _ _
  · have hil : i = n := by have := of_decide_eq_false hlt; omega
    subst hil
    refine ⟨hTm, ?_⟩
    conv => whnf
    refine callU cb (fun _ => rfl) ?_
    conv => whnf
    have done : ∀ b, b = (e1 == 0 && (e2 == 0 && (wb && (x.lives.length == 1)))) → Fin (x, b) q := fun b hb => ⟨by rw [hq, hb]⟩
    have hlm : ((x.lives.map Live.enc).length : Int) = x.lives.length := by rw [List.length_map]
    have hle : (((x.lives.map Live.enc).length : Int) == 1) = (x.lives.length == 1) := by
      rw [hlm, Bool.eq_iff_iff]; simp; omega
    refine AW.draw T_ok rfl (.one 0 (.one 1 (.one 2 (.one 3 (.one 4 (.one 5 (.one 6 (.one 7 (.one 8 (.one 9 (.one 10 (.one 11 (.one 12 (.one 13 (.one 14 (.two 15 (.two 16 (listPl [17, 18, 19, 20]) 19 (listPl [16, 17, 18, 20])) 19 (listPl [15, 16, 17, 18, 20]))))))))))))))))) (by kernel_rfl) (by kernel_rfl) ?_
    conv => whnf
    refine callS (num16_con e1) rfl ?_
    conv => whnf
    split <;> rename_i h1 <;> conv => whnf
    · have h1' : (e1 == 0) = true := h1
      refine callS (num16_con e2) rfl ?_
      conv => whnf
      split <;> rename_i h2 <;> conv => whnf
      · have h2' : (e2 == 0) = true := h2
        refine callS cw rfl ?_
        conv => whnf
        cases wb with
        | false =>
          conv => whnf
          have d := done false (by rw [h1', h2']; rfl)
          refine ⟨?_, ?_⟩ <;> conv => whnf
          · refine ⟨?_, ?_⟩ <;> conv => whnf
            · exact finWBo d
            · exact finWBo d
          · exact finWBo d
        | true =>
          conv => whnf
          have d := done (x.lives.length == 1) (by rw [h1', h2']; rfl)
          rw [← hle] at d
          refine ⟨?_, ?_⟩ <;> conv => whnf
          · refine ⟨?_, ?_⟩ <;> conv => whnf
            · exact finWBo d
            · exact finWBo d
          · exact finWBo d
      · have h2' : (e2 == 0) = false := h2
        have d := done false (by rw [h1', h2']; rfl)
        refine ⟨?_, ?_⟩ <;> conv => whnf
        · refine ⟨?_, ?_⟩ <;> conv => whnf
          · exact finWBo d
          · exact finWBo d
        · exact finWBo d
    · have h1' : (e1 == 0) = false := h1
      have d := done false (by rw [h1']; rfl)
      refine ⟨?_, ?_⟩ <;> conv => whnf
      · refine ⟨?_, ?_⟩ <;> conv => whnf
        · exact finWBo d
        · exact finWBo d
      · exact finWBo d
end Go.Proofs.YtfjllfjmggooeaaGreatDoor.Rx

/- What the laws by made worlds lean on: a world is awake. -/
set_option linter.unusedVariables false
set_option linter.unusedSimpArgs false
namespace Go.Rx
def tk (w : Wd) : Wd := { w with clock := IntKind.i64.wrap (w.clock + 1) }
theorem readyW_may {w : Wd} {r : Rec} (h : (readyW w r).2 = 0) : worldB w = true ∧ beginsB r = true ∧ r.id = ((w.lives.length + 1 : Nat) : Int) ∧ keyI (sagasL w.lives) r.key < 0 ∧ (roomW w r).2 = 0 ∧ (roomW w r).1 = true ∧ readyW w r = jappP w.file r ∧ (jappP w.file r).2 = 0 := by
  unfold readyW at h ⊢
  split at h
  · cases h
  rename_i h1
  rw [if_neg h1]
  split at h
  · rename_i h2
    rw [if_pos h2]
    split at h
    · rename_i h3
      rw [if_pos h3]
      simp only [Bool.or_eq_true, Bool.not_eq_true', bne_iff_ne, ne_eq, decide_eq_true_eq, not_or, Bool.not_eq_false, Decidable.not_not, Int.not_le] at h1
      refine ⟨h1.1, h1.2.1, ?_, h1.2.2.2, h2, h3, rfl, h⟩
      have hl := (worldB_iff.1 h1.1).len
      rw [h1.2.2.1, wrapI (by omega)]; simp
    · cases h
  · rename_i h2; exact absurd h h2
theorem beginS_ok {r : Rec} (h : r.Ok) : (beginS r).1.Ok := by
  unfold beginS
  split
  · exact zS_ok
  · exact ⟨h.key, h.body, h.steps⟩
theorem crash_file {f : FileS} (h : f.Ok) (hb : fileB f = true) : (crashP f f.tail.size).1.Ok := file_ok (sync_may hb)
theorem beginWd_ok {w : Wd} {r : Rec} (hw : w.Ok) (hr : r.Ok) : (beginWd w r).1.Ok := by
  unfold beginWd
  split
  · rename_i h
    obtain ⟨h1, _, _, _, _, _, h7, h8⟩ := readyW_may h
    have hb : fileB (readyW w r).1 = true := by rw [h7]; exact app_file h8
    have hl := (worldB_iff.1 h1).len
    refine ⟨crash_file (file_ok hb) hb, hw.gl, by show (w.lives ++ [_]).length * 200 ≤ _; rw [List.length_append, List.length_singleton]; omega, hw.ol, hw.ledgers, fun v hv => ?_⟩
    rcases List.mem_append.1 hv with e | e
    · exact hw.lives v e
    · rw [List.mem_singleton.1 e]
      exact ⟨beginS_ok hr, zRec_ok⟩
  · exact zWd_ok
theorem madeX_ok (n : Nat) (hn : n ≤ 100) (outs : List Int) : (madeX n outs).1.Ok := beginWd_ok (newWd_ok 9000 outs) (madeR_ok n hn)
theorem tickWd_goes {w : Wd} (h : worldB w = true) (hc : w.clock < 1073741824) : tickWd w = ((goW 2000 (tk w)).1, 0) := by
  rw [tickWd, if_pos h, if_neg (by omega)]; rfl
theorem tickIn_of {w : Wd} (h : worldB w = true) (ho : w.clock < 1073741824 → okGo 2000 (tk w) = true) : TickIn w := by
  have hi := worldB_iff.1 h
  refine ⟨hi.wok, fun _ hc => ?_, fun he => ?_⟩
  · exact (hi.clock hc).goOk (by omega) (ho hc)
  · by_cases hc : w.clock < 1073741824
    · rw [tickWd_goes h hc]
      exact ((hi.clock hc).goEnd (k := 2000) (by omega)).wok
    · rw [tickWd, if_pos h, if_pos (by omega)] at he; cases he
/-! ### Nothing to do -/
def wakeW : Wd := (newWd 999 []).1
def wakeX : Wd × Int := beginWd wakeW b0
def wakeB : Bool := ((newWd 999 []).2 == 0) && (worldB wakeW && ((wakeX.2 == 0) && (worldB wakeX.1 && (okGo 2000 (tk wakeX.1) && ((tickWd wakeX.1).2 == 0 && (((idleWd (tickWd wakeX.1).1).2 == 0 && (idleWd (tickWd wakeX.1).1).1) && (tickWd wakeX.1).1.lives.length == 1))))))
theorem wake_all : wakeB = true := by kernel_rfl
theorem wake_step : stepWd wakeW = (zWd, 3) ∧ dueI wakeW = none := ⟨by kernel_rfl, by kernel_rfl⟩
theorem b0_ok : b0.Ok := recB_ok (by kernel_rfl)
end Go.Rx
namespace Go.Proofs.YtfjllfjmggooeaaGreatDoor.Rx
open Go.Rx Go.Proofs Go.Proofs.YtfjllfjmggooeaaGreatDoor.RxH
theorem wakes16_con : Con P 23 [] (Bl true) [] := by
  have hall := wake_all
  simp only [wakeB, Bool.and_eq_true, beq_iff_eq] at hall
  obtain ⟨a1, a2, a3, a4, a5, a6, ⟨a7, a8⟩, a9⟩ := hall
  have cn := newWd_con 999 [] (by decide)
  have hw : (newWd 999 []).1 = wakeW := rfl
  have cs := stepWd_con wakeW (newWd_ok 999 []) (fun _ => (worldB_iff.1 a2).stepOk (by omega) (.inr wake_step.2))
  have cb := beginWd_con wakeW (newWd_ok 999 []) b0 b0_ok
  have hx : beginWd wakeW b0 = wakeX := rfl
  rw [wake_step.1] at cs
  rw [hx] at cb
  have ht := tickIn_of a4 (fun _ => a5)
  have ct := tickWd_con wakeX.1 ht.ok ht.go
  have ci := idleWd_con (tickWd wakeX.1).1 (ht.out a6)
  generalize idleWd (tickWd wakeX.1).1 = id at ci a7 a8
  generalize tickWd wakeX.1 = y at ct ci a6 a9
  generalize wakeX = x at cb ct a3
  generalize newWd 999 [] = p at cn a1 hw
  obtain ⟨p, e1⟩ := p
  obtain ⟨x, e2⟩ := x
  obtain ⟨y, e3⟩ := y
  obtain ⟨b, e4⟩ := id
  simp only at a1 a3 a6 a7 a8 a9 hw ct ci
  subst a1 a3 a6 a7 a8 hw
  have hlm : ((y.lives.map Live.enc).length : Int) = 1 := by rw [List.length_map, a9]; rfl
  refine Con.of T_ok Tryz.func23 rfl (by kernel_rfl) (by kernel_rfl) (aw_of T_ok (by kernel_rfl) ?_)
  conv => whnf
  refine callP cn ⟨.inl rfl, .inr (.inl ⟨_, _, rfl, rfl, wkN 1⟩), trivial⟩ (fun _ => rfl) ?_
  conv => whnf
  refine callU cs (fun _ => rfl) ?_
  conv => whnf
  refine ⟨rfl, ?_⟩
  conv => whnf
  refine callU cb (fun _ => rfl) ?_
  conv => whnf
  refine callU ct (fun _ => rfl) ?_
  conv => whnf
  refine callU ci (fun _ => rfl) ?_
  conv => whnf
  refine callS (num16_con 0) rfl ?_
  conv => whnf
  refine callS (num16_con 3) rfl ?_
  conv => whnf
  refine callS (num16_con 0) rfl ?_
  conv => whnf
  refine callS (num16_con 0) rfl ?_
  conv => whnf
  refine callS (num16_con 0) rfl ?_
  conv => whnf
  exact finB ⟨by show (((y.lives.map Live.enc).length : Int) == 1) = true; rw [hlm]; rfl⟩
end Go.Proofs.YtfjllfjmggooeaaGreatDoor.Rx

/- Worlds whose answers all come: no step fails, and steps end. -/
set_option linter.unusedVariables false
set_option linter.unusedSimpArgs false
namespace Go.Rx
/-- A record that begins none takes 24 bytes. -/
theorem fr24 {r : Rec} (h : recB r = true) (hk : ¬ r.kind = 1) : GoodR r ∧ (frR r).size = 24 ∧ (bytesR r).2 = 0 ∧ (bytesR r).1 = frR r := by
  have hs : (plainS r).size = 16 := by
    rw [plainS, plainL, if_neg hk]; rfl
  have hg : GoodR r := ⟨h, by omega⟩
  refine ⟨hg, by rw [frR_size hg, hs], ?_, ?_⟩
  · rw [bytesR, if_pos h, frmR, if_neg (by omega)]
  · rw [bytesR, if_pos h, frmR, if_neg (by omega)]
theorem japp24 {f : FileS} {r : Rec} (hf : fileB f = true) (h : recB r = true) (hk : ¬ r.kind = 1) (hr : 24 ≤ roomF f) : (jappP f r).2 = 0 ∧ roomF (jappP f r).1 = roomF f - 24 := by
  obtain ⟨h1, h2, h3, h4⟩ := fr24 h hk
  have e : jappP f r = (⟨f.safe, f.tail ++ frR r, f.cap⟩, 0) := by
    rw [jappP, if_pos hf, if_pos h3, h4, fappP, if_pos hf, if_neg (by rw [h2]; omega)]
  rw [e]
  refine ⟨rfl, ?_⟩
  unfold roomF
  show f.cap - (f.safe.size : Int) - ((f.tail ++ frR r).size : Int) = _
  rw [ByteArray.size_append, h2]; omega
theorem sync_room {f : FileS} (h : fileB f = true) : roomF (crashP f f.tail.size).1 = roomF f := by
  rw [sync_file h]
  unfold roomF
  show f.cap - ((f.safe ++ f.tail).size : Int) - ((0 : Nat) : Int) = _
  rw [ByteArray.size_append]; omega
/-! ### Which calls have happened -/
def didB (l : List Ledger) (s : Saga) (n : Nat) : Bool := match s.steps[n]? with
  | none => false
  | some st => match l[(st.service - 1).toNat]? with
    | none => false
    | some g => doneB g.entries (callKey s.id n)
def cntD (l : List Ledger) (s : Saga) : Nat → Int
  | 0 => 0
  | k + 1 => cntD l s k + (if didB l s k then 1 else 0)
theorem cntD_le (l : List Ledger) (s : Saga) : ∀ k, 0 ≤ cntD l s k ∧ cntD l s k ≤ k
  | 0 => ⟨Int.le_refl _, Int.le_refl _⟩
  | k + 1 => by
    have := cntD_le l s k
    rw [cntD]
    split <;> omega
theorem cntD_congr {l l' : List Ledger} {s s' : Saga} (h : ∀ n, didB l s n = didB l' s' n) : ∀ k, cntD l s k = cntD l' s' k
  | 0 => rfl
  | k + 1 => by rw [cntD, cntD, h k, cntD_congr h k]
def fwd (d : Int) : Int := if d ≤ 4 then 8 - d else 0
/-- How many effects may still come of a live. -/
def pot (l : List Ledger) (v : Live) : Int :=
  if v.saga.status = 0 then
    (if v.saga.back then cntD l v.saga (if v.write.kind = 5 then v.saga.left - 1 else v.saga.left).toNat
     else if v.write.kind = 4 then cntD l v.saga (v.saga.done + 1).toNat
     else fwd (if v.write.kind = 3 then v.saga.done + 1 else v.saga.done))
  else 0
def kn (v : Live) : Int :=
  if v.saga.status = 0 then
    (if v.saga.back then (if v.write.kind = 5 then v.saga.left - 1 else v.saga.left)
     else if v.write.kind = 4 then v.saga.done + 1
     else 10 - (if v.write.kind = 3 then v.saga.done + 1 else v.saga.done))
  else 0
def mu (v : Live) : Int := if v.saga.status = 0 then 3 * needN v.saga - (if v.write.kind = 0 then 0 else if v.put then 2 else 1) else 0
def frI (v : Live) : Int := if v.saga.status = 0 then 24 * needN v.saga - (if v.put then 24 else 0) else 0
theorem mu_ge {v : Live} (h : sagaB v.saga = true) : 0 ≤ mu v ∧ mu v ≤ 51 := by
  have := need_low (parts_iff.1 h)
  unfold mu; repeat' split
  all_goals omega
theorem fr_ge {v : Live} (h : sagaB v.saga = true) : 0 ≤ frI v := by
  have := need_low (parts_iff.1 h)
  unfold frI; repeat' split
  all_goals omega
theorem kn_ge {v : Live} (h : sagaB v.saga = true) (hw : v.write.kind = 5 → v.saga.status = 0 → v.saga.back = true → 1 ≤ v.saga.left) : 0 ≤ kn v ∧ kn v ≤ 10 := by
  have hp := parts_iff.1 h
  have hl := parts_len hp
  have h0 := hp.d0
  have h1 := hp.d1
  have h2 := hp.l0
  have h3 := hp.l1
  have h4 := hp.ou
  have hm := most_le hp
  unfold mostI at h3 hm
  unfold kn
  by_cases hs : v.saga.status = 0
  · rw [if_pos hs]
    by_cases hb : v.saga.back = true
    · rw [if_pos hb]
      split
      · rename_i h5; have := hw h5 hs hb; split at h3 <;> omega
      · split at h3 <;> omega
    · rw [if_neg hb]
      split
      · omega
      · split <;> omega
  · rw [if_neg hs]; omega
theorem pot_ge (l : List Ledger) (v : Live) (h : sagaB v.saga = true) : 0 ≤ pot l v ∧ pot l v ≤ 8 := by
  have hp := parts_iff.1 h
  have hl := parts_len hp
  have h0 := hp.d0
  have h1 := hp.d1
  have h2 := hp.l0
  have h3 := hp.l1
  have hm := most_le hp
  unfold pot fwd
  by_cases hs : v.saga.status = 0
  · rw [if_pos hs]
    by_cases hb : v.saga.back = true
    · rw [if_pos hb]
      have := cntD_le l v.saga (if v.write.kind = 5 then v.saga.left - 1 else v.saga.left).toNat
      split at this <;> rename_i h5 <;> (try rw [if_pos h5]) <;> (try rw [if_neg h5]) <;> omega
    · rw [if_neg hb]
      split
      · have := cntD_le l v.saga (v.saga.done + 1).toNat; omega
      · repeat' split
        all_goals omega
  · rw [if_neg hs]; omega
end Go.Rx

/- Worlds whose answers all come: what a step keeps. -/
set_option linter.unusedVariables false
set_option linter.unusedSimpArgs false
namespace Go.Rx
theorem WInv.lower {w : Wd} {a b : Int} (h : WInv w a) (hk : w.taken ≤ b) (ht : ∀ v ∈ w.lives, v.tries ≤ b) : WInv w b :=
  ⟨h.c0, h.c1, h.k0, hk, h.ol, h.ob, h.file, h.ledgers, h.tog, fun v hv => ⟨(h.lives v hv).t0, ht v hv, (h.lives v hv).d0, (h.lives v hv).d1, (h.lives v hv).wr⟩⟩
structure EInv (w : Wd) : Prop where
  inv : WInv w 1073741824
  outs : ∀ o ∈ w.outs, o = 0 ∨ o = 1
  room : sumI frI w.lives ≤ roomF w.file
  ents : ∀ g ∈ w.ledgers, (g.entries.length : Int) + sumI (pot w.ledgers) w.lives ≤ 190
  known : ∀ g ∈ w.ledgers, (g.known.length : Int) + sumI kn w.lives ≤ 300
  tkn : w.taken + sumI mu w.lives ≤ 3000
theorem WInv.left1 {w : Wd} {tb : Int} (h : WInv w tb) {v : Live} (hv : v ∈ w.lives) (h5 : v.write.kind = 5) : 1 ≤ v.saga.left := by
  rcases (h.lives v hv).wr with e | e
  · rw [e.1] at h5
    have : (zRec).kind = 0 := rfl
    omega
  · have hf := e.2.2
    simp only [fitsL, Bool.and_eq_true, beq_iff_eq] at hf
    have hn := nx_of (h.saga hv) e.2.1 hf.2.2
    generalize nextS v.saga v.write = x at hn
    cases hn with
    | undone hk hn hb hl => exact hl
    | _ => omega
theorem WInv.kn0 {w : Wd} {tb : Int} (h : WInv w tb) {v : Live} (hv : v ∈ w.lives) : 0 ≤ kn v ∧ kn v ≤ 10 := kn_ge (h.saga hv) fun h5 _ _ => h.left1 hv h5
theorem WInv.ids {w : Wd} {tb : Int} (h : WInv w tb) {i : Nat} {v : Live} (hi : w.lives[i]? = some v) : v.saga.id = ((i + 1 : Nat) : Int) := by
  have ht := h.tog
  rw [togB, Bool.and_eq_true] at ht
  have hs := sagas_at hi
  have hil := (List.getElem?_eq_some_iff.1 hs).1
  have h1 := List.all_eq_true.1 ht.1 i (List.mem_range.2 hil)
  unfold togAt at h1
  rw [hs] at h1
  simp only [Bool.and_eq_true, beq_iff_eq] at h1
  exact h1.2.1
theorem EInv.out {w : Wd} (h : EInv w) : outW w = 0 ∨ outW w = 1 := by
  unfold outW
  split
  · rename_i hlt
    have h0 := h.inv.k0
    have hl : w.taken.toNat < w.outs.length := by omega
    rw [List.getElem?_eq_getElem hl]
    exact h.outs _ (List.getElem_mem hl)
  · exact .inl rfl
theorem sumI_set2 {f g : Live → Int} : ∀ {l : List Live} {i : Nat} {v x : Live}, l[i]? = some v → (∀ (k : Nat) (u : Live), l[k]? = some u → k ≠ i → g u = f u) → sumI g (l.set i x) = sumI f l - f v + g x
  | [], i, v, x, h, _ => by simp at h
  | a :: l, 0, v, x, h, hu => by
    simp at h; subst h
    have : sumI g l = sumI f l := by
      have hall : ∀ u ∈ l, g u = f u := fun u hm => by
        obtain ⟨k, hk, e⟩ := List.mem_iff_getElem.1 hm
        exact hu (k + 1) u (by simp [← e, hk]) (by omega)
      clear hu
      induction l with
      | nil => rfl
      | cons b l ih => simp only [sumI]; rw [hall b (by simp), ih fun u hm => hall u (by simp [hm])]
    simp only [List.set, sumI, this]; omega
  | a :: l, i + 1, v, x, h, hu => by
    have := sumI_set2 (f := f) (g := g) (x := x) (show l[i]? = some v by simpa using h) fun k u hk hn => hu (k + 1) u (by simpa using hk) (by omega)
    have h0 := hu 0 a rfl (by omega)
    simp only [List.set, sumI, this, h0]; omega
theorem doneB_app {E : List Entry} {x : Entry} {k : Int} (h : x.key ≠ k ∨ x.back = true) : doneB (E ++ [x]) k = doneB E k := by
  unfold doneB
  rw [List.find?_append]
  cases hf : E.find? (fun e => e.key == k) with
  | some e => rfl
  | none =>
    simp only [Option.none_or, List.find?_cons, List.find?_nil]
    by_cases hk : x.key = k
    · have hb : x.back = true := by
        rcases h with h | h
        · exact absurd hk h
        · exact h
      rw [show (x.key == k) = true by simpa using hk]
      simp [hb]
    · rw [show (x.key == k) = false by simpa using hk]
theorem didB_set {l : List Ledger} {k0 : Nat} {g g' : Ledger} {s : Saga} {n : Nat} (hg : l[k0]? = some g) (h : doneB g'.entries (callKey s.id n) = doneB g.entries (callKey s.id n)) : didB (l.set k0 g') s n = didB l s n := by
  unfold didB
  cases s.steps[n]? with
  | none => rfl
  | some st =>
    simp only
    have hl := (List.getElem?_eq_some_iff.1 hg).1
    by_cases e : (st.service - 1).toNat = k0
    · rw [e, List.getElem?_set_self hl, hg]
      exact h
    · rw [List.getElem?_set_ne (Ne.symm e)]
theorem pot_same {l l' : List Ledger} {v : Live} (h : ∀ n, didB l' v.saga n = didB l v.saga n) : pot l' v = pot l v := by
  unfold pot
  rw [cntD_congr h, cntD_congr h]
/-- Calls of the step at hand. -/
theorem Calls1.did {w : Wd} {v : Live} {j : Nat} {st : Step} {g g' : Ledger} {a : Int} (hc : Calls1 w v j st g g' a) : didB w.ledgers v.saga j = doneB g.entries (callKey v.saga.id j) := by
  unfold didB
  rw [hc.at'.row]
  simp only
  rw [hc.at'.led]
theorem Calls1.none' {w : Wd} {v : Live} {j : Nat} {st : Step} {g g' : Ledger} {a : Int} (hc : Calls1 w v j st g g' a) (hb : v.saga.back = true) : noneAt w v.saga = !(didB w.ledgers v.saga j) := by
  rw [hc.did, noneAt, hb, hc.at'.gAt, hc.inn.at']; rfl
theorem Calls1.fwd {w : Wd} {v : Live} {j : Nat} {st : Step} {g g' : Ledger} {a : Int} (hc : Calls1 w v j st g g' a) (hb : v.saga.back = false) : noneAt w v.saga = false ∧ entryW v.saga = ⟨callKey v.saga.id j, false, st.op, st.who, st.n⟩ := by
  constructor
  · rw [noneAt, hb]; rfl
  · rw [entryW, hb, if_neg (by decide), hc.inn.at', hc.at'.stAt]
theorem Calls1.bwd {w : Wd} {v : Live} {j : Nat} {st : Step} {g g' : Ledger} {a : Int} (hc : Calls1 w v j st g g' a) (hb : v.saga.back = true) : entryW v.saga = ⟨undoKey v.saga.id j, true, st.undo, st.who, st.n⟩ := by
  rw [entryW, hb, if_pos rfl, hc.inn.at', hc.at'.stAt]
/-- Another saga's calls are as they were. -/
theorem Calls1.other {w : Wd} {tb : Int} (h : WInv w tb) {i k : Nat} {v u : Live} {j : Nat} {st : Step} {g g' : Ledger} {a : Int} (hc : Calls1 w v j st g g' a) (hi : w.lives[i]? = some v) (hk : w.lives[k]? = some u) (hne : k ≠ i) (n : Nat) :
    didB (w.ledgers.set (st.service - 1).toNat g') u.saga n = didB w.ledgers u.saga n := by
  have hid := h.ids hi
  have hku := h.ids hk
  by_cases hn : n < u.saga.steps.length
  · refine didB_set hc.at'.led ?_
    have hsu := parts_len (parts_iff.1 (h.saga (List.mem_of_getElem? hk)))
    have hsv := parts_len (parts_iff.1 (h.saga (List.mem_of_getElem? hi)))
    have k1 := keys_at (id := u.saga.id) (i := n) ⟨hsu.2.2.1, hsu.2.2.2⟩ (by omega)
    have k2 := keys_at (id := v.saga.id) (i := j) ⟨hsv.2.2.1, hsv.2.2.2⟩ hc.inn.i5
    have hj := hc.inn.i5
    cases hc.does with
    | known _ => rfl
    | refused _ _ => rfl
    | happens h1 h2 h3 h4 =>
      show doneB (if noneAt w v.saga then g.entries else g.entries ++ [entryW v.saga]) _ = _
      split
      · rfl
      · cases hb : v.saga.back with
        | true => exact doneB_app (.inr (by rw [hc.bwd hb]))
        | false =>
          refine doneB_app (.inl ?_)
          rw [(hc.fwd hb).2]
          show callKey v.saga.id j ≠ callKey u.saga.id n
          rw [k1.1, k2.1]
          omega
  · unfold didB
    rw [List.getElem?_eq_none (by omega)]
theorem Does.a01 {g g' : Ledger} {x : Entry} {no : Bool} {out a : Int} (h : Does g x no out g' a) (ho : out = 0 ∨ out = 1) : (a = 0 ∧ (g' = g ∨ (g.known.contains x.key = false ∧ g' = ⟨g.service, if no then g.entries else g.entries ++ [x], insL g.known (posL g.known x.key) x.key⟩))) ∨ (a = 1 ∧ g' = g ∧ g.known.contains x.key = false) := by
  cases h with
  | known h =>
    left
    refine ⟨?_, .inl rfl⟩
    rcases ho with rfl | rfl <;> simp [ansL]
  | refused h h2 =>
    rcases ho with rfl | rfl
    · omega
    · exact .inr ⟨rfl, rfl, h⟩
  | happens h h2 h3 h4 =>
    left
    rcases ho with rfl | rfl
    · exact ⟨by simp [ansL], .inr ⟨h, rfl⟩⟩
    · exact absurd (.inl rfl) h2
theorem set_led {l : List Ledger} {k : Nat} {g : Ledger} (h : l[k]? = some g) : l.set k g = l := set_same h
theorem mem_led {l : List Ledger} {k : Nat} {g x : Ledger} (h : x ∈ l.set k g) : x = g ∨ x ∈ l := by
  rcases List.mem_or_eq_of_mem_set h with h | h
  · exact .inr h
  · exact .inl h
end Go.Rx

/- Effects: which keys there are, and what a saga's state says of them. -/
set_option linter.unusedVariables false
set_option linter.unusedSimpArgs false
namespace Go.Rx
def hasK (g : Ledger) (k : Int) : Bool := g.entries.any fun e => e.key == k
/-- A thing that holds of the ledger of a saga's step. -/
def atLed (l : List Ledger) (s : Saga) (n : Nat) (p : Ledger → Bool) : Bool := match s.steps[n]? with
  | none => false
  | some st => match l[(st.service - 1).toNat]? with
    | none => false
    | some g => p g
def did (l : List Ledger) (s : Saga) (n : Nat) : Bool := atLed l s n fun g => hasK g (callKey s.id n)
def und (l : List Ledger) (s : Saga) (n : Nat) : Bool := atLed l s n fun g => hasK g (undoKey s.id n)
def knc (l : List Ledger) (s : Saga) (n : Nat) : Bool := atLed l s n fun g => g.known.contains (callKey s.id n)
def knu (l : List Ledger) (s : Saga) (n : Nat) : Bool := atLed l s n fun g => g.known.contains (undoKey s.id n)
/-- What the state of a saga says of the effects. -/
structure Snd (l : List Ledger) (s : Saga) : Prop where
  a : ∀ n : Nat, did l s n = true → (n : Int) < s.done ∨ ((n : Int) = s.done ∧ s.out = true)
  b : ∀ n : Nat, und l s n = true → did l s n = true ∧ s.back = true
  c : ∀ n : Nat, (n : Int) < s.done → did l s n = true
  d : ∀ n : Nat, s.back = true → s.left ≤ n → did l s n = true → und l s n = true
  e : s.status = 1 → ∀ n : Nat, n < s.steps.length → did l s n = true ∧ und l s n = false
  f : s.status = 2 → ∀ n : Nat, did l s n = und l s n
  g : ∀ n : Nat, und l s n = true → s.left - 1 ≤ n
  h : ∀ n : Nat, knu l s n = true → s.back = true
/-- What is known of a saga's keys. -/
structure Knw (l : List Ledger) (s : Saga) : Prop where
  k1 : ∀ n : Nat, knc l s n = true → did l s n = true
  k2 : ∀ n : Nat, knu l s n = true → did l s n = true → und l s n = true
/-- Whose a key is. -/
def Owns (L : List Saga) (sv k : Int) (b : Bool) : Prop := ∃ (i : Nat) (s : Saga) (n : Nat) (st : Step), L[i]? = some s ∧ s.steps[n]? = some st ∧ st.service = sv ∧ ((k = callKey s.id n ∧ b = false) ∨ (k = undoKey s.id n ∧ b = true))
structure Keys (l : List Ledger) (L : List Saga) : Prop where
  en : ∀ g ∈ l, ∀ e ∈ g.entries, Owns L g.service e.key e.back
  kn : ∀ g ∈ l, ∀ k ∈ g.known, ∃ b, Owns L g.service k b
theorem atLed_congr {l : List Ledger} {s s' : Saga} {n : Nat} {p q : Ledger → Bool} (h1 : s'.steps = s.steps) (h2 : ∀ g, p g = q g) : atLed l s' n p = atLed l s n q := by
  unfold atLed
  rw [h1]
  cases s.steps[n]? with
  | none => rfl
  | some st =>
    simp only
    cases l[(st.service - 1).toNat]? with
    | none => rfl
    | some g => exact h2 g
theorem did_same {l : List Ledger} {s s' : Saga} (h1 : s'.steps = s.steps) (h2 : s'.id = s.id) (n : Nat) : did l s' n = did l s n := atLed_congr h1 fun _ => by rw [h2]
theorem und_same {l : List Ledger} {s s' : Saga} (h1 : s'.steps = s.steps) (h2 : s'.id = s.id) (n : Nat) : und l s' n = und l s n := atLed_congr h1 fun _ => by rw [h2]
theorem knc_same {l : List Ledger} {s s' : Saga} (h1 : s'.steps = s.steps) (h2 : s'.id = s.id) (n : Nat) : knc l s' n = knc l s n := atLed_congr h1 fun _ => by rw [h2]
theorem knu_same {l : List Ledger} {s s' : Saga} (h1 : s'.steps = s.steps) (h2 : s'.id = s.id) (n : Nat) : knu l s' n = knu l s n := atLed_congr h1 fun _ => by rw [h2]
theorem Knw.same {l : List Ledger} {s s' : Saga} (h : Knw l s) (h1 : s'.steps = s.steps) (h2 : s'.id = s.id) : Knw l s' :=
  ⟨fun n => by rw [knc_same h1 h2, did_same h1 h2]; exact h.k1 n, fun n => by rw [knu_same h1 h2, did_same h1 h2, und_same h1 h2]; exact h.k2 n⟩
theorem atLed_at {l : List Ledger} {s : Saga} {n : Nat} {p : Ledger → Bool} {st : Step} {g : Ledger} (h1 : s.steps[n]? = some st) (h2 : l[(st.service - 1).toNat]? = some g) : atLed l s n p = p g := by
  unfold atLed; rw [h1]; simp only; rw [h2]
/-- A ledger another one, that is the same at a key. -/
theorem atLed_set {l : List Ledger} {k0 : Nat} {g g' : Ledger} {s : Saga} {n : Nat} {p : Ledger → Bool} (hg : l[k0]? = some g) (h : n < s.steps.length → p g' = p g) : atLed (l.set k0 g') s n p = atLed l s n p := by
  unfold atLed
  cases hs : s.steps[n]? with
  | none => rfl
  | some st =>
    simp only
    have hn := (List.getElem?_eq_some_iff.1 hs).1
    have hl := (List.getElem?_eq_some_iff.1 hg).1
    by_cases e : (st.service - 1).toNat = k0
    · rw [e, List.getElem?_set_self hl, hg]
      exact h hn
    · rw [List.getElem?_set_ne (Ne.symm e)]
theorem snd_next {l : List Ledger} {s : Saga} {r : Rec} {x : Saga} (h : Snd l s) (hp : Parts s) (hx : Nx s r x) (hd : r.kind = 3 → did l s s.done.toNat = true) (hu : r.kind = 5 → did l s (s.left - 1).toNat = true → und l s (s.left - 1).toNat = true) : Snd l x := by
  have p0 := hp.d0
  have p1 := hp.d1
  cases hx with
  | call hk hn hb ho hlt =>
    refine ⟨fun n hd => ?_, h.b, h.c, h.d, h.e, h.f, h.g, h.h⟩
    rcases h.a n hd with e | e
    · exact .inl e
    · exact .inr ⟨e.1, rfl⟩
  | done hk hn hb ho =>
    have hdd := hd hk
    refine ⟨fun n hd => ?_, h.b, fun n hn => ?_, h.d, h.e, h.f, h.g, h.h⟩
    · rcases h.a n hd with e | e
      · left; show (n : Int) < s.done + 1; omega
      · left; show (n : Int) < s.done + 1; omega
    · show did l s n = true
      have hn' : (n : Int) < s.done + 1 := hn
      by_cases e : (n : Int) < s.done
      · exact h.c n e
      · have : n = s.done.toNat := by omega
        rw [this]; exact hdd
  | abort hk hb ho =>
    refine ⟨h.a, fun n hn => ⟨(h.b n hn).1, rfl⟩, h.c, fun n _ hl hd => ?_, h.e, h.f, fun n hn => ?_, fun _ _ => rfl⟩
    · have hl' : s.done + 1 ≤ n := hl
      rcases h.a n hd with e | e <;> omega
    · have := (h.b n hn).2
      rw [hb] at this; cases this
  | undone hk hn hb hl =>
    have huu := hu hk
    refine ⟨h.a, h.b, h.c, fun n hb' hl' hd => ?_, h.e, h.f, fun n hn => ?_, h.h⟩
    · show und l s n = true
      have hl2 : s.left - 1 ≤ n := hl'
      by_cases e : s.left ≤ n
      · exact h.d n hb e hd
      · have : n = (s.left - 1).toNat := by omega
        rw [this] at hd ⊢
        exact huu hd
    · have := h.g n hn
      show s.left - 1 - 1 ≤ (n : Int)
      omega
  | ends hk hn he =>
    refine ⟨h.a, h.b, h.c, h.d, fun hs n hlt => ?_, fun hs n => ?_, h.g, h.h⟩
    · have hs' : r.n = 1 := hs
      rw [hs'] at he
      unfold endsB at he
      rw [if_neg (by decide), if_pos rfl] at he
      simp only [Bool.and_eq_true, Bool.not_eq_true', beq_iff_eq] at he
      have hlt' : n < s.steps.length := hlt
      refine ⟨h.c n (by rw [he.1.2]; omega), ?_⟩
      cases hu : und l s n with
      | false => exact hu
      | true =>
        have := (h.b n hu).2
        rw [he.1.1] at this; cases this
    · have hs' : r.n = 2 := hs
      rw [hs'] at he
      unfold endsB at he
      rw [if_neg (by decide), if_neg (by decide), if_pos rfl] at he
      simp only [Bool.and_eq_true, beq_iff_eq] at he
      show did l s n = und l s n
      cases hd : did l s n with
      | true => exact (h.d n he.1 (by rw [he.2]; omega) hd).symm
      | false =>
        cases hu : und l s n with
        | false => rfl
        | true => rw [(h.b n hu).1] at hd; cases hd
end Go.Rx

/- Effects: a call. -/
set_option linter.unusedVariables false
set_option linter.unusedSimpArgs false
namespace Go.Rx
theorem Does.hasK {g g' : Ledger} {x : Entry} {no : Bool} {out a k : Int} (h : Does g x no out g' a) (hk : x.key ≠ k) : hasK g' k = Go.Rx.hasK g k := by
  cases h with
  | known _ => rfl
  | refused _ _ => rfl
  | happens _ _ _ _ =>
    unfold Go.Rx.hasK
    cases no with
    | true => rfl
    | false => simp [List.any_append, hk]
theorem Does.kn {g g' : Ledger} {x : Entry} {no : Bool} {out a k : Int} (h : Does g x no out g' a) (hk : x.key ≠ k) : g'.known.contains k = g.known.contains k := by
  cases h with
  | known _ => rfl
  | refused _ _ => rfl
  | happens _ _ _ _ =>
    show (insL g.known (posL g.known x.key) x.key).contains k = _
    rw [ins_has, show (k == x.key) = false by simpa using Ne.symm hk, Bool.or_false]
/-- The key of the call itself. -/
theorem Does.mine {g g' : Ledger} {x : Entry} {no : Bool} {out a : Int} (h : Does g x no out g' a) :
    (g' = g ∧ g.known.contains x.key = true) ∨ (g' = g ∧ g.known.contains x.key = false ∧ (a = 1 ∨ a = 2)) ∨ (g.known.contains x.key = false ∧ g'.known.contains x.key = true ∧ Go.Rx.hasK g' x.key = (Go.Rx.hasK g x.key || !no)) := by
  cases h with
  | known h => exact .inl ⟨rfl, h⟩
  | refused h h2 => exact .inr (.inl ⟨rfl, h, h2⟩)
  | happens h _ _ _ =>
    refine .inr (.inr ⟨h, ?_, ?_⟩)
    · show (insL g.known (posL g.known x.key) x.key).contains x.key = true
      rw [ins_has]; simp
    · unfold Go.Rx.hasK
      cases no with
      | true => simp
      | false => simp [List.any_append]
theorem keys_ne {a b : Int} {n m : Nat} (ha : 1 ≤ a ∧ a ≤ 20) (hb : 1 ≤ b ∧ b ≤ 20) (hn : n < 5) (hm : m < 5) (h : a ≠ b ∨ n ≠ m) :
    callKey a n ≠ callKey b m ∧ callKey a n ≠ undoKey b m ∧ undoKey a n ≠ callKey b m ∧ undoKey a n ≠ undoKey b m := by
  have k1 := keys_at ha hn
  have k2 := keys_at hb hm
  rw [k1.1, k1.2, k2.1, k2.2]
  omega
theorem keys_cu {a b : Int} {n m : Nat} (ha : 1 ≤ a ∧ a ≤ 20) (hb : 1 ≤ b ∧ b ≤ 20) (hn : n < 5) (hm : m < 5) : callKey a n ≠ undoKey b m := by
  have k1 := keys_at ha hn
  have k2 := keys_at hb hm
  rw [k1.1, k2.2]
  omega
theorem WInv.idr {w : Wd} {tb : Int} (h : WInv w tb) {v : Live} (hv : v ∈ w.lives) : (1 ≤ v.saga.id ∧ v.saga.id ≤ 20) ∧ v.saga.steps.length ≤ 5 := by
  have := parts_len (parts_iff.1 (h.saga hv))
  exact ⟨this.2.2, this.2.1⟩
/-- All that is told of the keys of a step (of this saga, or of another) that is not called is as it was. -/
theorem calls_off {w : Wd} {tb : Int} (h : WInv w tb) {v u : Live} {j : Nat} {st : Step} {g g' : Ledger} {a : Int} (hc : Calls1 w v j st g g' a) (hv : v ∈ w.lives) (hu : u ∈ w.lives) {n : Nat} (hne : v.saga.id ≠ u.saga.id ∨ j ≠ n) :
    did (w.ledgers.set (st.service - 1).toNat g') u.saga n = did w.ledgers u.saga n ∧ und (w.ledgers.set (st.service - 1).toNat g') u.saga n = und w.ledgers u.saga n ∧
      knc (w.ledgers.set (st.service - 1).toNat g') u.saga n = knc w.ledgers u.saga n ∧ knu (w.ledgers.set (st.service - 1).toNat g') u.saga n = knu w.ledgers u.saga n := by
  have i1 := h.idr hv
  have i2 := h.idr hu
  have hx : n < u.saga.steps.length → (entryW v.saga).key ≠ callKey u.saga.id n ∧ (entryW v.saga).key ≠ undoKey u.saga.id n := fun hn => by
    have k := keys_ne i1.1 i2.1 hc.inn.i5 (show n < 5 by omega) hne
    cases hb : v.saga.back with
    | false => rw [(hc.fwd hb).2]; exact ⟨k.1, k.2.1⟩
    | true => rw [hc.bwd hb]; exact ⟨k.2.2.1, k.2.2.2⟩
  exact ⟨atLed_set hc.at'.led fun hn => hc.does.hasK (hx hn).1, atLed_set hc.at'.led fun hn => hc.does.hasK (hx hn).2, atLed_set hc.at'.led fun hn => hc.does.kn (hx hn).1, atLed_set hc.at'.led fun hn => hc.does.kn (hx hn).2⟩
/-- Of the step itself: of the call it is told at its ledger. -/
theorem calls_on {w : Wd} {v : Live} {j : Nat} {st : Step} {g g' : Ledger} {a : Int} (hc : Calls1 w v j st g g' a) :
    (did w.ledgers v.saga j = hasK g (callKey v.saga.id j) ∧ und w.ledgers v.saga j = hasK g (undoKey v.saga.id j) ∧ knc w.ledgers v.saga j = g.known.contains (callKey v.saga.id j) ∧ knu w.ledgers v.saga j = g.known.contains (undoKey v.saga.id j)) ∧
    (did (w.ledgers.set (st.service - 1).toNat g') v.saga j = hasK g' (callKey v.saga.id j) ∧ und (w.ledgers.set (st.service - 1).toNat g') v.saga j = hasK g' (undoKey v.saga.id j) ∧ knc (w.ledgers.set (st.service - 1).toNat g') v.saga j = g'.known.contains (callKey v.saga.id j) ∧ knu (w.ledgers.set (st.service - 1).toNat g') v.saga j = g'.known.contains (undoKey v.saga.id j)) := by
  have hl := (List.getElem?_eq_some_iff.1 hc.at'.led).1
  have h2 : (w.ledgers.set (st.service - 1).toNat g')[(st.service - 1).toNat]? = some g' := List.getElem?_set_self hl
  exact ⟨⟨atLed_at hc.at'.row hc.at'.led, atLed_at hc.at'.row hc.at'.led, atLed_at hc.at'.row hc.at'.led, atLed_at hc.at'.row hc.at'.led⟩, atLed_at hc.at'.row h2, atLed_at hc.at'.row h2, atLed_at hc.at'.row h2, atLed_at hc.at'.row h2⟩
/-- Whose effects a ledger bears is who is done. -/
theorem done_has {L : List Saga} {g : Ledger} {id : Int} {n : Nat} (hL : ∀ (i : Nat) (s : Saga), L[i]? = some s → (1 ≤ s.id ∧ s.id ≤ 20) ∧ s.steps.length ≤ 5) (hk : ∀ e ∈ g.entries, Owns L g.service e.key e.back) (hid : 1 ≤ id ∧ id ≤ 20) (hn : n < 5) :
    doneB g.entries (callKey id n) = hasK g (callKey id n) := by
  unfold doneB hasK
  cases hf : g.entries.find? (fun e => e.key == callKey id n) with
  | none =>
    have := List.find?_eq_none.1 hf
    symm
    rw [List.any_eq_false]
    exact this
  | some e =>
    have hm := List.mem_of_find?_eq_some hf
    have hke := List.find?_some hf
    obtain ⟨i, s, m, st, h1, h2, h3, h4⟩ := hk e hm
    have hs := hL i s h1
    have hmm := (List.getElem?_eq_some_iff.1 h2).1
    have hb : e.back = false := by
      rcases h4 with h4 | h4
      · exact h4.2
      · have := keys_cu hid hs.1 hn (show m < 5 by omega)
        rw [← h4.1] at this
        exact absurd (eq_of_beq hke).symm this
    simp only [hb, Bool.not_false]
    symm
    rw [List.any_eq_true]
    exact ⟨e, hm, hke⟩
theorem WInv.sgL {w : Wd} {tb : Int} (h : WInv w tb) : ∀ (i : Nat) (s : Saga), (sagasL w.lives)[i]? = some s → (1 ≤ s.id ∧ s.id ≤ 20) ∧ s.steps.length ≤ 5 := fun i s hs => by
  rw [sagasL, List.getElem?_map, Option.map_eq_some_iff] at hs
  obtain ⟨v, hv, rfl⟩ := hs
  exact h.idr (List.mem_of_getElem? hv)
/-- What a call leaves of the saga that is called. -/
theorem call_snd {w : Wd} {tb : Int} (h : WInv w tb) {i : Nat} {v : Live} {j : Nat} {st : Step} {g g' : Ledger} {a : Int} (hc : Calls1 w v j st g g' a) (hi : w.lives[i]? = some v) (hst : v.saga.status = 0) (hs : Snd w.ledgers v.saga) (hk : Knw w.ledgers v.saga) (hK : Keys w.ledgers (sagasL w.lives)) :
    Snd (w.ledgers.set (st.service - 1).toNat g') v.saga ∧ Knw (w.ledgers.set (st.service - 1).toNat g') v.saga ∧
      (¬ a = 1 → ¬ a = 2 → v.saga.back = false → did (w.ledgers.set (st.service - 1).toNat g') v.saga j = true) ∧
      (¬ a = 1 → ¬ a = 2 → v.saga.back = true → did (w.ledgers.set (st.service - 1).toNat g') v.saga j = true → und (w.ledgers.set (st.service - 1).toNat g') v.saga j = true) := by
  have hv : v ∈ w.lives := List.mem_of_getElem? hi
  have i1 := h.idr hv
  have hoff := fun n (hn : j ≠ n) => calls_off h hc hv hv (n := n) (.inr hn)
  have hon := calls_on hc
  have hm := hc.does.mine
  have hgm : g ∈ w.ledgers := List.mem_of_getElem? hc.at'.led
  have hcu := keys_cu i1.1 i1.1 hc.inn.i5 hc.inn.i5
  have hpt := parts_iff.1 (h.saga hv)
  have hdn := done_has (L := sagasL w.lives) (g := g) (id := v.saga.id) (n := j) h.sgL (hK.en g hgm) i1.1 hc.inn.i5
  generalize w.ledgers.set (st.service - 1).toNat g' = l' at hoff hon
  generalize w.ledgers = l at hs hk hoff hon
  obtain ⟨⟨o1, o2, o3, o4⟩, p1, p2, p3, p4⟩ := hon
  cases hb : v.saga.back with
  | false =>
    obtain ⟨hout, hdone⟩ := hc.fw hb
    obtain ⟨hno, he⟩ := hc.fwd hb
    rw [he] at hm
    simp only [hno, Bool.not_false, Bool.or_true] at hm
    -- the undo key is as it was; the call key is there, or nothing has turned
    have hu : hasK g' (undoKey v.saga.id j) = hasK g (undoKey v.saga.id j) ∧ g'.known.contains (undoKey v.saga.id j) = g.known.contains (undoKey v.saga.id j) := by
      have hne : (entryW v.saga).key ≠ undoKey v.saga.id j := by rw [he]; exact hcu
      exact ⟨hc.does.hasK hne, hc.does.kn hne⟩
    have hund : ∀ n, und l' v.saga n = und l v.saga n := fun n => by
      by_cases e : j = n
      · subst e; rw [p2, o2]; exact hu.1
      · exact (hoff n e).2.1
    have hknu : ∀ n, knu l' v.saga n = knu l v.saga n := fun n => by
      by_cases e : j = n
      · subst e; rw [p4, o4]; exact hu.2
      · exact (hoff n e).2.2.2
    have hnoknu : ∀ n, knu l v.saga n = false := fun n => by
      cases hq : knu l v.saga n with
      | false => rfl
      | true => have := hs.h n hq; rw [hb] at this; cases this
    have hdid : ∀ n, did l v.saga n = true → did l' v.saga n = true := fun n hd => by
      by_cases e : j = n
      · subst e
        rw [o1] at hd
        rw [p1]
        rcases hm with ⟨rfl, _⟩ | ⟨rfl, _⟩ | ⟨_, _, h3⟩
        · exact hd
        · exact hd
        · exact h3
      · rw [(hoff n e).1]; exact hd
    have hknc : knc l' v.saga j = true → did l' v.saga j = true := fun hq => by
      rw [p3] at hq
      rcases hm with ⟨rfl, _⟩ | ⟨rfl, h2, _⟩ | ⟨_, _, h3⟩
      · rw [p1, ← o1]; exact hk.k1 j (by rw [o3]; exact hq)
      · rw [h2] at hq; cases hq
      · rw [p1]; exact h3
    refine ⟨⟨fun n hd => ?_, fun n hu => ?_, fun n hn => hdid n (hs.c n hn), fun n hbb => absurd (hb.symm.trans hbb) (by decide), fun e => absurd (hst.symm.trans e) (by decide), fun e => absurd (hst.symm.trans e) (by decide), fun n hu => ?_, fun n hu => ?_⟩, ⟨fun n hq => ?_, fun n hq => ?_⟩, fun a1 a2 _ => ?_, fun _ _ hbb => absurd hbb (by decide)⟩
    · by_cases e : j = n
      · subst e; right; exact ⟨hdone.symm, hout⟩
      · rw [(hoff n e).1] at hd; exact hs.a n hd
    · rw [hund] at hu
      exact ⟨hdid n (hs.b n hu).1, (hs.b n hu).2⟩
    · rw [hund] at hu; exact hs.g n hu
    · rw [hknu] at hu; exact hs.h n hu
    · by_cases e : j = n
      · subst e; exact hknc hq
      · rw [(hoff n e).2.2.1] at hq
        rw [(hoff n e).1]; exact hk.k1 n hq
    · rw [hknu, hnoknu] at hq; cases hq
    · rw [p1]
      rcases hm with ⟨rfl, h2⟩ | ⟨rfl, h2, h3⟩ | ⟨_, _, h3⟩
      · rw [← o1]; exact hk.k1 j (by rw [o3]; exact h2)
      · omega
      · exact h3
  | true =>
    have hlf := hc.bw hb
    have he := hc.bwd hb
    have hnone := hc.none' hb
    rw [hc.did, hdn] at hnone
    rw [he] at hm
    simp only [hnone, Bool.not_not] at hm
    have hcl : hasK g' (callKey v.saga.id j) = hasK g (callKey v.saga.id j) ∧ g'.known.contains (callKey v.saga.id j) = g.known.contains (callKey v.saga.id j) := by
      have hne : (entryW v.saga).key ≠ callKey v.saga.id j := by rw [he]; exact Ne.symm hcu
      exact ⟨hc.does.hasK hne, hc.does.kn hne⟩
    have hdid : ∀ n, did l' v.saga n = did l v.saga n := fun n => by
      by_cases e : j = n
      · subst e; rw [p1, o1]; exact hcl.1
      · exact (hoff n e).1
    have hknc : ∀ n, knc l' v.saga n = knc l v.saga n := fun n => by
      by_cases e : j = n
      · subst e; rw [p3, o3]; exact hcl.2
      · exact (hoff n e).2.2.1
    have hund : ∀ n, und l v.saga n = true → und l' v.saga n = true := fun n hd => by
      by_cases e : j = n
      · subst e
        rw [o2] at hd
        rw [p2]
        rcases hm with ⟨rfl, _⟩ | ⟨rfl, _⟩ | ⟨_, _, h3⟩
        · exact hd
        · exact hd
        · rw [h3, hd]; rfl
      · rw [(hoff n e).2.1]; exact hd
    have hk2 : knu l' v.saga j = true → did l' v.saga j = true → und l' v.saga j = true := fun hq hd => by
      rw [p4] at hq
      rw [hdid, o1] at hd
      rcases hm with ⟨rfl, _⟩ | ⟨rfl, h2, _⟩ | ⟨_, _, h3⟩
      · rw [p2, ← o2]; exact hk.k2 j (by rw [o4]; exact hq) (by rw [o1]; exact hd)
      · rw [h2] at hq; cases hq
      · rw [p2, h3, hd, Bool.or_true]
    refine ⟨⟨fun n hd => ?_, fun n hu => ?_, fun n hn => ?_, fun n hbb hl hd => ?_, fun e => absurd (hst.symm.trans e) (by decide), fun e => absurd (hst.symm.trans e) (by decide), fun n hu => ?_, fun n _ => hb⟩, ⟨fun n hq => ?_, fun n hq hd => ?_⟩, fun _ _ hbb => absurd hbb (by decide), fun a1 a2 _ hd => ?_⟩
    · rw [hdid] at hd; exact hs.a n hd
    · refine ⟨?_, hb⟩
      rw [hdid]
      by_cases e : j = n
      · subst e
        rw [p2] at hu
        rcases hm with ⟨rfl, _⟩ | ⟨rfl, _⟩ | ⟨_, _, h3⟩
        · exact (hs.b j (by rw [o2]; exact hu)).1
        · exact (hs.b j (by rw [o2]; exact hu)).1
        · rw [h3, Bool.or_eq_true] at hu
          rcases hu with hu | hu
          · exact (hs.b j (by rw [o2]; exact hu)).1
          · rw [o1]; exact hu
      · rw [(hoff n e).2.1] at hu; exact (hs.b n hu).1
    · rw [hdid]; exact hs.c n hn
    · rw [hdid] at hd
      exact hund n (hs.d n hb hl hd)
    · by_cases e : j = n
      · subst e; omega
      · rw [(hoff n e).2.1] at hu; exact hs.g n hu
    · rw [hknc] at hq; rw [hdid]; exact hk.k1 n hq
    · by_cases e : j = n
      · subst e; exact hk2 hq hd
      · rw [(hoff n e).2.2.2] at hq
        rw [hdid] at hd
        rw [(hoff n e).2.1]; exact hk.k2 n hq hd
    · rcases hm with ⟨rfl, h2⟩ | ⟨rfl, h2, h3⟩ | ⟨_, h2, _⟩
      · exact hk2 (by rw [p4]; exact h2) hd
      · omega
      · exact hk2 (by rw [p4]; exact h2) hd
end Go.Rx

/- Effects: no ledger is ever full. -/
set_option linter.unusedVariables false
set_option linter.unusedSimpArgs false
namespace Go.Rx
theorem sorted_len : ∀ {l : List Int} {a b : Int}, l.Pairwise (· < ·) → (∀ x ∈ l, a ≤ x ∧ x < b) → a ≤ b → (l.length : Int) ≤ b - a
  | [], a, b, _, _, h => by simp; omega
  | x :: l, a, b, hp, hx, h => by
    have h0 := hx x (by simp)
    rw [List.pairwise_cons] at hp
    have := sorted_len (a := x + 1) (b := b) hp.2 (fun y hy => by
      have h1 := hp.1 y hy
      have h2 := hx y (by simp [hy])
      omega) (by omega)
    simp only [List.length_cons]
    omega
theorem nodup_len : ∀ {l m : List Int}, l.Nodup → (∀ x ∈ l, x ∈ m) → l.length ≤ m.length
  | [], m, _, _ => Nat.zero_le _
  | x :: l, m, hn, hs => by
    rw [List.nodup_cons] at hn
    have hx := hs x (by simp)
    have := nodup_len (l := l) (m := m.erase x) hn.2 (fun y hy => by
      have hne : y ≠ x := fun e => hn.1 (e ▸ hy)
      exact (List.mem_erase_of_ne hne).2 (hs y (by simp [hy])))
    rw [List.length_erase_of_mem hx] at this
    have hpos : 0 < m.length := List.length_pos_of_mem hx
    simp only [List.length_cons]
    omega
def keyF (k : Int) : Int := (k / 100 - 1) * 10 + k % 100
theorem owns_key {L : List Saga} (hL : ∀ (i : Nat) (s : Saga), L[i]? = some s → (1 ≤ s.id ∧ s.id ≤ 20) ∧ s.steps.length ≤ 5) {sv k : Int} {b : Bool} (h : Owns L sv k b) : ∃ (id : Int) (m : Nat), 1 ≤ id ∧ id ≤ 20 ∧ m < 10 ∧ k = id * 100 + m := by
  obtain ⟨i, s, n, st, h1, h2, _, h4⟩ := h
  have hs := hL i s h1
  have hn := (List.getElem?_eq_some_iff.1 h2).1
  have hk := keys_at hs.1 (show n < 5 by omega)
  rcases h4 with ⟨e, _⟩ | ⟨e, _⟩
  · exact ⟨s.id, 2 * n, hs.1.1, hs.1.2, by omega, by rw [e, hk.1]; omega⟩
  · exact ⟨s.id, 2 * n + 1, hs.1.1, hs.1.2, by omega, by rw [e, hk.2]; omega⟩
theorem keys_len {l : List Int} (hs : l.Pairwise (· < ·)) (hk : ∀ k ∈ l, ∃ (id : Int) (m : Nat), 1 ≤ id ∧ id ≤ 20 ∧ m < 10 ∧ k = id * 100 + m) : l.length ≤ 200 := by
  have h2 : (l.map keyF).Pairwise (· < ·) := by
    rw [List.pairwise_map]
    refine hs.imp_of_mem fun {a b} ha hb hab => ?_
    obtain ⟨i, m, h1, h2, h3, rfl⟩ := hk a ha
    obtain ⟨i', m', h1', h2', h3', rfl⟩ := hk b hb
    unfold keyF
    omega
  have := sorted_len (a := 0) (b := 200) h2 (fun x hx => by
    obtain ⟨k, hk', rfl⟩ := List.mem_map.1 hx
    obtain ⟨i, m, h1, h2, h3, rfl⟩ := hk k hk'
    unfold keyF
    omega) (by omega)
  rw [List.length_map] at this
  omega
theorem entries_le {g : Ledger} (h : entriesB g = true) : g.entries.length ≤ g.known.length := by
  have h1 : (g.entries.map Entry.key).Nodup := by
    rw [List.Nodup, List.pairwise_iff_getElem]
    intro i j hi hj hij
    rw [List.length_map] at hi hj
    have := rng_at h hj
    rw [entryAt, List.getElem?_eq_getElem hj] at this
    simp only [Bool.and_eq_true, Bool.not_eq_true', List.any_eq_false] at this
    have h2 := this.2.2.1 g.entries[i] (List.mem_take_iff_getElem.2 ⟨i, by omega, rfl⟩)
    simp only [List.getElem_map]
    simpa using h2
  have := nodup_len h1 (m := g.known) (fun x hx => by
    obtain ⟨e, he, rfl⟩ := List.mem_map.1 hx
    simpa using entry_known h he)
  rw [List.length_map] at this
  exact this
/-- The key of a call is its saga's. -/
theorem CallAt.owns {w : Wd} {v : Live} {j i : Nat} {st : Step} {g : Ledger} (hc : CallAt w v.saga j g st) (hat : stepI v.saga = j) (hi : w.lives[i]? = some v) : Owns (sagasL w.lives) g.service (entryW v.saga).key (entryW v.saga).back := by
  refine ⟨i, v.saga, j, st, sagas_at hi, hc.row, hc.gsv.symm, ?_⟩
  rw [entryW, hat]
  split
  · exact .inr ⟨rfl, rfl⟩
  · exact .inl ⟨rfl, rfl⟩
theorem WInv.room' {w : Wd} {tb : Int} (h : WInv w tb) (hK : Keys w.ledgers (sagasL w.lives)) {v : Live} {j i : Nat} {st : Step} {g : Ledger} (hc : CallAt w v.saga j g st) (hat : stepI v.saga = j) (hi : w.lives[i]? = some v) (hn : g.known.contains (entryW v.saga).key = false) :
    g.entries.length < 200 ∧ g.known.length < 400 := by
  have hgm : g ∈ w.ledgers := List.mem_of_getElem? hc.led
  obtain ⟨hsv, hkl, hkn, hen, hel⟩ := ledger_parts hc.may
  have h1 := ins_known hkn hc.key hn
  have h2 := known_sorted h1
  have h3 := keys_len h2 (fun k hk => by
    have hkm : k ∈ g.known ∨ k = (entryW v.saga).key := by
      have : (insL g.known (posL g.known (entryW v.saga).key) (entryW v.saga).key).contains k = true := by simpa using hk
      rw [ins_has, Bool.or_eq_true] at this
      rcases this with e | e
      · exact .inl (by simpa using e)
      · exact .inr (by simpa using e)
    rcases hkm with e | e
    · obtain ⟨b, hb⟩ := hK.kn g hgm k e
      exact owns_key h.sgL hb
    · rw [e]; exact owns_key h.sgL (hc.owns hat hi))
  rw [ins_len (posL_le g.known _)] at h3
  have := entries_le hen
  omega
theorem WInv.noFull {w : Wd} {tb : Int} (h : WInv w tb) (hK : Keys w.ledgers (sagasL w.lives)) {v : Live} {j i : Nat} (hj : StepIn v.saga j) (hi : w.lives[i]? = some v) : (doneAt w v.saga).2.2 = 0 := by
  obtain ⟨g, st, hc⟩ := h.callAt (h.saga (List.mem_of_getElem? hi)) hj
  rw [doneAt, hc.gAt, doL]
  split
  · rfl
  rename_i h1
  split
  · rfl
  have := h.room' hK hc hj.at' hi (by simpa using h1)
  rw [if_neg (by omega)]
theorem Keys.same {l : List Ledger} {L L' : List Saga} (h : Keys l L) (hL : ∀ (i : Nat) (s : Saga), L[i]? = some s → ∃ s', L'[i]? = some s' ∧ s'.id = s.id ∧ s'.steps = s.steps) : Keys l L' := by
  have ho : ∀ {sv k : Int} {b : Bool}, Owns L sv k b → Owns L' sv k b := fun {sv k b} ⟨i, s, n, st, h1, h2, h3, h4⟩ => by
    obtain ⟨s', e1, e2, e3⟩ := hL i s h1
    exact ⟨i, s', n, st, e1, by rw [e3]; exact h2, h3, by rw [e2]; exact h4⟩
  exact ⟨fun g hg e he => ho (h.en g hg e he), fun g hg k hk => by obtain ⟨b, hb⟩ := h.kn g hg k hk; exact ⟨b, ho hb⟩⟩
theorem Does.sv {g g' : Ledger} {x : Entry} {no : Bool} {out a : Int} (h : Does g x no out g' a) : g'.service = g.service := by cases h <;> rfl
theorem keys_call {w : Wd} {i : Nat} {v : Live} {j : Nat} {st : Step} {g g' : Ledger} {a : Int} (hc : Calls1 w v j st g g' a) (hi : w.lives[i]? = some v) (hK : Keys w.ledgers (sagasL w.lives)) : Keys (w.ledgers.set (st.service - 1).toNat g') (sagasL w.lives) := by
  have ho := hc.at'.owns hc.inn.at' hi
  have hgm : g ∈ w.ledgers := List.mem_of_getElem? hc.at'.led
  have hsv := hc.does.sv
  refine ⟨fun y hy e he => ?_, fun y hy k hk => ?_⟩
  · rcases mem_led hy with q | q
    · rw [q] at he ⊢
      rw [hsv]
      have hd := hc.does
      cases hd with
      | known _ => exact hK.en g hgm e he
      | refused _ _ => exact hK.en g hgm e he
      | happens _ _ _ _ =>
        have he' : e ∈ (if noneAt w v.saga then g.entries else g.entries ++ [entryW v.saga]) := he
        split at he'
        · exact hK.en g hgm e he'
        · rcases List.mem_append.1 he' with r | r
          · exact hK.en g hgm e r
          · rw [List.mem_singleton.1 r]; exact ho
    · exact hK.en y q e he
  · rcases mem_led hy with q | q
    · rw [q] at hk ⊢
      rw [hsv]
      have hd := hc.does
      cases hd with
      | known _ => exact hK.kn g hgm k hk
      | refused _ _ => exact hK.kn g hgm k hk
      | happens _ _ _ _ =>
        have hk' : (insL g.known (posL g.known (entryW v.saga).key) (entryW v.saga).key).contains k = true := by simpa using hk
        rw [ins_has, Bool.or_eq_true] at hk'
        rcases hk' with r | r
        · exact hK.kn g hgm k (by simpa using r)
        · have : k = (entryW v.saga).key := by simpa using r
          rw [this]; exact ⟨_, ho⟩
    · exact hK.kn y q k hk
end Go.Rx
