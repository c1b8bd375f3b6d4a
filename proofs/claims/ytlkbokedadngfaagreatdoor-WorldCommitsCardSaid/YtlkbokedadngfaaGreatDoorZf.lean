/- The texts of the proof, part 6, in order. -/
import Derived.Test.YtlkbokedadngfaaGreatDoorZe
import Derived.Test.YtlkbokedadngfaaGreatDoorZd
import Derived.LaidEql
import Derived.Stop.Asserts
import Derived.RowKitTokens
/- A step's call back, walked. -/
set_option linter.unusedVariables false
set_option linter.unusedSimpArgs false
namespace Go.Proofs.YtlkbokedadngfaaGreatDoor.Rx
open Go.Rx Go.Proofs Go.Proofs.YtlkbokedadngfaaGreatDoor.RxH
set_option maxHeartbeats 1000000 in
theorem calledT_con (w : Wd) (id : Int) (key body : ByteArray) (steps : List Step) (done : Int) (out : Bool) (left status : Int) (h : CallOk w ⟨id, key, body, steps, done, out, true, left, status⟩) (he : (doneAt w ⟨id, key, body, steps, done, out, true, left, status⟩).2.2 = 0) :
    ConG P 98 (mvB w) [.lf (.ptr 0 0), encSaga ⟨id, key, body, steps, done, out, true, left, status⟩] (.tup [.lf (.pv (pI (doneAt w ⟨id, key, body, steps, done, out, true, left, status⟩).2.1)), nilT]) (mvB (calledW w ⟨id, key, body, steps, done, out, true, left, status⟩)) := by
  have h0 := h.at0
  have h1 := h.at1
  have hsv := h.sv
  have hgl := h.gl
  have hcw : calledW w ⟨id, key, body, steps, done, out, true, left, status⟩ = { w with ledgers := w.ledgers.set ((stepAt ⟨id, key, body, steps, done, out, true, left, status⟩).service - 1).toNat (doneAt w ⟨id, key, body, steps, done, out, true, left, status⟩).1, taken := IntKind.i64.wrap (w.taken + 1) } := rfl
  have hd : doneAt w ⟨id, key, body, steps, done, out, true, left, status⟩ = doL (ledgAt w ⟨id, key, body, steps, done, out, true, left, status⟩) ⟨undoKey id (IntKind.i64.wrap (left - 1)), true, (stepAt ⟨id, key, body, steps, done, out, true, left, status⟩).undo, (stepAt ⟨id, key, body, steps, done, out, true, left, status⟩).who, (stepAt ⟨id, key, body, steps, done, out, true, left, status⟩).n⟩ (!(doneB (ledgAt w ⟨id, key, body, steps, done, out, true, left, status⟩).entries (callKey id (IntKind.i64.wrap (left - 1))))) (outW w) := rfl
  have hla : ledgAt w ⟨id, key, body, steps, done, out, true, left, status⟩ = (w.ledgers[((stepAt ⟨id, key, body, steps, done, out, true, left, status⟩).service - 1).toNat]?).getD zL := rfl
  have hsa : stepAt ⟨id, key, body, steps, done, out, true, left, status⟩ = (steps[(IntKind.i64.wrap (left - 1)).toNat]?).getD zStep := rfl
  rw [hcw]
  have e : stepI ⟨id, key, body, steps, done, out, true, left, status⟩ = IntKind.i64.wrap (left - 1) := rfl
  rw [e] at h0 h1
  have h1' : IntKind.i64.wrap (left - 1) < (steps.length : Int) := h1
  have h00 : 0 ≤ IntKind.i64.wrap (left - 1) := h0
  obtain ⟨ix, hix⟩ : ∃ ix, ix = IntKind.i64.wrap (left - 1) := ⟨_, rfl⟩
  rw [← hix] at hd hsa h00 h1'
  have hdl : ix.toNat < steps.length := by omega
  rw [List.getElem?_eq_getElem hdl] at hsa
  have hrow : (steps.map Step.enc)[ix.toNat]? = some (steps[ix.toNat]).enc := by simp [hdl]
  have hsa' : stepAt ⟨id, key, body, steps, done, out, true, left, status⟩ = steps[ix.toNat] := hsa
  rw [hsa'] at hsv hd hla ⊢
  generalize steps[ix.toNat] = st at hrow hsv hd hla
  have hgi : (st.service - 1).toNat < w.ledgers.length := by omega
  have hws : IntKind.i64.wrap (st.service - 1) = st.service - 1 := wrapI (by omega)
  have hgrow : (w.ledgers.map Ledger.enc)[(st.service - 1).toNat]? = some (w.ledgers[(st.service - 1).toNat]).enc := by rw [List.getElem?_map, List.getElem?_eq_getElem hgi]; rfl
  rw [List.getElem?_eq_getElem hgi] at hla
  have hla' : ledgAt w ⟨id, key, body, steps, done, out, true, left, status⟩ = w.ledgers[(st.service - 1).toNat] := hla
  rw [hla'] at hd
  have hok := h.ok _ (List.getElem_mem hgi)
  have hsrt := h.srt _ (List.getElem_mem hgi)
  generalize w.ledgers[(st.service - 1).toNat] = g at hgrow hd hok hsrt
  have cd := doQ_con g hok hsrt ⟨undoKey id ix, true, st.undo, st.who, st.n⟩ (!(doneB g.entries (callKey id ix))) (outW w)
  have cn := done_con g hok (callKey id ix)
  rw [← hd] at cd
  have co := out_con w h.taken
  generalize doneAt w ⟨id, key, body, steps, done, out, true, left, status⟩ = d at he cd
  obtain ⟨g', a, e⟩ := d
  simp only at he
  subst he
  have hml : (w.ledgers.map Ledger.enc).length = w.ledgers.length := List.length_map ..
  refine ConG.of T_ok Tryz.func98 rfl (by kernel_rfl) (by kernel_rfl) (aw_ofC T_ok 1009 (by kernel_rfl) ?_)
  conv => whnf
  refine ⟨by rw [← hix]; exact h00, _, by rw [← hix]; exact hrow, ?_⟩
  conv => whnf
  refine callS (pair_con' id (IntKind.i64.wrap (left - 1))) rfl ?_
  conv => whnf
  refine AW.draw T_ok rfl (seqPl 0 12) (by kernel_rfl) (by kernel_rfl) ?_
  conv => whnf
  refine ⟨hml, by rw [hws]; omega, by rw [hws]; omega, ?_⟩
  conv => whnf
  refine ⟨rfl, hml, _, by rw [hws]; exact hgrow, ?_⟩
  conv => whnf
  refine AW.cut (fun _ : Unit => True) (fun _ => [(0, .lf (.ptr 0 0)), (7, .lf (.ptr 5 0)), (10, .lf (.ptr 6 0)), (11, .lf (.ptr 7 0)), (12, Bl (!(doneB g.entries (callKey id ix))))])
    (fun _ => mvB w ++ [.var [.pv (pI id), .pv (pS key), .pv (pS body), .pv (encSteps steps), .pv (pI done), .pv (pB out), .pv (pB true), .pv (pI left), .pv (pI status)],
      .var [.pv (pS st.nm), .pv (pI st.service), .pv (pS st.op), .pv (pS st.undo), .pv (pS st.who), .pv (pI st.n)],
      .var [.pv (pI (undoKey id ix)), .pv (pB true), .pv (pS st.undo), .pv (pS st.who), .pv (pI st.n)], ledgerV g]) [] ?_ ?_
  · refine aw_of T_ok (by kernel_rfl) ?_
    conv => whnf
    refine AW.draw T_ok rfl pl10 (by kernel_rfl) (by kernel_rfl) ?_
    conv => whnf
    rw [← hix]
    refine ⟨?_, ?_⟩ <;> conv => whnf
    · refine callS cn rfl ?_
      conv => whnf
      exact ⟨(), trivial, ⟨rfl, rfl, rfl, rfl, rfl, trivial⟩, ⟨[], rfl⟩, rfl, rfl⟩
    · refine ⟨?_, ?_⟩ <;> conv => whnf
      · refine callS cn rfl ?_
        conv => whnf
        exact ⟨(), trivial, ⟨rfl, rfl, rfl, rfl, rfl, trivial⟩, ⟨[], rfl⟩, rfl, rfl⟩
      · refine callS cn rfl ?_
        conv => whnf
        exact ⟨(), trivial, ⟨rfl, rfl, rfl, rfl, rfl, trivial⟩, ⟨[], rfl⟩, rfl, rfl⟩
  rintro _ _
  refine aw_ofC T_ok 2012 (by kernel_rfl) ?_
  conv => whnf
  refine AW.cut (fun _ : Unit => True) (fun _ => [(0, .lf (.ptr 0 0)), (7, .lf (.ptr 5 0)), (11, .lf (.ptr 7 0)), (13, Go.Rx.I a), (14, Go.Rx.I 0)])
    (fun _ => mvB w ++ [.var [.pv (pI id), .pv (pS key), .pv (pS body), .pv (encSteps steps), .pv (pI done), .pv (pB out), .pv (pB true), .pv (pI left), .pv (pI status)],
      .var [.pv (pS st.nm), .pv (pI st.service), .pv (pS st.op), .pv (pS st.undo), .pv (pS st.who), .pv (pI st.n)],
      .var [.pv (pI (undoKey id ix)), .pv (pB true), .pv (pS st.undo), .pv (pS st.who), .pv (pI st.n)], ledgerV g']) [] ?_ ?_
  · refine aw_of T_ok (by kernel_rfl) ?_
    conv => whnf
    refine AW.draw T_ok rfl pl12 (by kernel_rfl) (by kernel_rfl) ?_
    conv => whnf
    refine ⟨?_, ?_, ?_⟩ <;> conv => whnf
    · refine ⟨?_, ?_⟩ <;> conv => whnf
      · refine ⟨[0, 1, 2, 3], _, _, _, _, _, nodupB_ok rfl, rfl, rfl, wk_refl _, co, ?_⟩
        conv => whnf
        refine callU cd (fun _ => rfl) ?_
        conv => whnf
        exact ⟨(), trivial, ⟨rfl, rfl, rfl, rfl, rfl, trivial⟩, ⟨[], rfl⟩, rfl, rfl⟩
      · refine ⟨[0, 1, 2, 3], _, _, _, _, _, nodupB_ok rfl, rfl, rfl, wk_refl _, co, ?_⟩
        conv => whnf
        refine callU cd (fun _ => rfl) ?_
        conv => whnf
        exact ⟨(), trivial, ⟨rfl, rfl, rfl, rfl, rfl, trivial⟩, ⟨[], rfl⟩, rfl, rfl⟩
    · refine ⟨?_, ?_⟩ <;> conv => whnf
      · refine ⟨[0, 1, 2, 3], _, _, _, _, _, nodupB_ok rfl, rfl, rfl, wk_refl _, co, ?_⟩
        conv => whnf
        refine callU cd (fun _ => rfl) ?_
        conv => whnf
        exact ⟨(), trivial, ⟨rfl, rfl, rfl, rfl, rfl, trivial⟩, ⟨[], rfl⟩, rfl, rfl⟩
      · refine ⟨[0, 1, 2, 3], _, _, _, _, _, nodupB_ok rfl, rfl, rfl, wk_refl _, co, ?_⟩
        conv => whnf
        refine callU cd (fun _ => rfl) ?_
        conv => whnf
        exact ⟨(), trivial, ⟨rfl, rfl, rfl, rfl, rfl, trivial⟩, ⟨[], rfl⟩, rfl, rfl⟩
    · refine ⟨[0, 1, 2, 3], _, _, _, _, _, nodupB_ok rfl, rfl, rfl, wk_refl _, co, ?_⟩
      conv => whnf
      refine callU cd (fun _ => rfl) ?_
      conv => whnf
      exact ⟨(), trivial, ⟨rfl, rfl, rfl, rfl, rfl, trivial⟩, ⟨[], rfl⟩, rfl, rfl⟩
  rintro _ _
  refine aw_of T_ok (by kernel_rfl) ?_
  conv => whnf
  refine AW.draw T_ok rfl (seqPl 0 11) (by kernel_rfl) (by kernel_rfl) ?_
  conv => whnf
  refine ⟨hml, by rw [hws]; omega, by rw [hws]; omega, ?_⟩
  conv => whnf
  refine ⟨rfl, hml, _, by rw [hws]; exact hgrow, ?_⟩
  conv => whnf
  refine ⟨by decide, ?_⟩
  conv => whnf
  refine ⟨[], [0, 1, 2, 3], [Go.Rx.I a, nilI], [Go.Rx.I a, nilI], rfl, ?zend, rfl, wk_refl _, rfl⟩
  have e1 : (w.ledgers.set (st.service - 1).toNat g').map Ledger.enc = (w.ledgers.map Ledger.enc).set (IntKind.i64.wrap (st.service - 1)).toNat g'.enc := by rw [hws]; exact List.map_set
  have e2 : (w.ledgers.set (st.service - 1).toNat g').length = w.ledgers.length := List.length_set
  show _ = some [Blk.var [.pv (pI w.clock), .pv (pS w.file.safe), .pv (pS w.file.tail), .pv (pI w.file.cap), .own 1 (w.ledgers.set (st.service - 1).toNat g').length, .own 2 w.lives.length, .own 3 w.outs.length, .pv (pI (IntKind.i64.wrap (w.taken + 1)))],
    .arr 59 3 ((w.ledgers.set (st.service - 1).toNat g').map Ledger.enc), .arr 43 18 (w.lives.map Live.enc), .arr 3 1 (intRows w.outs)]
  rw [e1, e2]
  rfl
end Go.Proofs.YtlkbokedadngfaaGreatDoor.Rx

/- A step: what an answer leads to. -/
set_option linter.unusedVariables false
set_option linter.unusedSimpArgs false
namespace Go.Rx
abbrev recT (r : Rec) : TC := .agg [.pv (pI r.kind), .pv (pI r.id), .pv (pI r.n), .pv (pS r.key), .pv (pS r.body), .pv (encSteps r.steps)]
abbrev recN (k id n : Int) : AV := .agg [.pv (pI k), .pv (pI id), .pv (pI n), .pv (pS ⟨#[]⟩), .pv (pS ⟨#[]⟩), .pv (.sc (.slice none 0 0))]
theorem wkRec (k id n : Int) (b : Bool) : Fa WkA [recN k id n, Bl b] [encRec ⟨k, id, n, ⟨#[]⟩, ⟨#[]⟩, []⟩, Bl b] :=
  ⟨.inr (.inr ⟨_, _, rfl, rfl, .inl rfl, .inl rfl, .inl rfl, .inl rfl, .inl rfl, wkN 6, trivial⟩), .inl rfl, trivial⟩
end Go.Rx
namespace Go.Proofs.YtlkbokedadngfaaGreatDoor.Rx
open Go.Rx Go.Proofs Go.Proofs.YtlkbokedadngfaaGreatDoor.RxH
theorem called_con (w : Wd) (s : Saga) (h : CallOk w s) (he : (doneAt w s).2.2 = 0) :
    ConG P 98 (mvB w) [.lf (.ptr 0 0), encSaga s] (.tup [.lf (.pv (pI (doneAt w s).2.1)), nilT]) (mvB (calledW w s)) := by
  obtain ⟨id, key, body, steps, done, out, back, left, status⟩ := s
  cases back with
  | false => exact calledF_con w id key body steps done out left status h he
  | true => exact calledT_con w id key body steps done out left status h he
/-- The world with a live turned. -/
abbrev setLive (w : Wd) (i : Nat) (v : Live) : Wd := { w with lives := w.lives.set i v }
theorem answered_con (w : Wd) (i : Nat) (v : Live) (a : Int) (hi : w.lives[i]? = some v) (ht : -1 ≤ v.tries ∧ v.tries ≤ 4611686018427387903) :
    ConG P 99 (mvB w) [.lf (.ptr 0 0), .lf (.ept 2 w.lives.length i 18 0), Go.Rx.I a] (.tup [recT (answeredL w.clock v a).2.1, .lf (.pv (pB (answeredL w.clock v a).2.2))]) (mvB (setLive w i (answeredL w.clock v a).1)) := by
  have hml : (w.lives.map Live.enc).length = w.lives.length := List.length_map ..
  have hrow : (w.lives.map Live.enc)[i]? = some v.enc := by rw [List.getElem?_map, hi]; rfl
  have hil : i < w.lives.length := (List.getElem?_eq_some_iff.1 hi).1
  have hset : ∀ r, ((w.lives.map Live.enc).set i r)[i]? = some r := fun r => List.getElem?_set_self (by rw [hml]; exact hil)
  have hsl : ∀ r, ((w.lives.map Live.enc).set i r).length = w.lives.length := fun r => by rw [List.length_set, hml]
  have hm2 : ∀ v' : Live, (w.lives.set i v').map Live.enc = (w.lives.map Live.enc).set i v'.enc := fun v' => List.map_set
  have hl2 : ∀ v' : Live, (w.lives.set i v').length = w.lives.length := fun v' => List.length_set
  have hB : ∀ v' : Live, [Blk.var [.pv (pI w.clock), .pv (pS w.file.safe), .pv (pS w.file.tail), .pv (pI w.file.cap), .own 1 w.ledgers.length, .own 2 w.lives.length, .own 3 w.outs.length, .pv (pI w.taken)],
      .arr 59 3 (w.ledgers.map Ledger.enc), .arr 43 18 ((w.lives.map Live.enc).set i v'.enc), .arr 3 1 (intRows w.outs)] = mvB (setLive w i v') := fun v' => by
    show _ = [Blk.var [.pv (pI w.clock), .pv (pS w.file.safe), .pv (pS w.file.tail), .pv (pI w.file.cap), .own 1 w.ledgers.length, .own 2 (w.lives.set i v').length, .own 3 w.outs.length, .pv (pI w.taken)],
      .arr 59 3 (w.ledgers.map Ledger.enc), .arr 43 18 ((w.lives.set i v').map Live.enc), .arr 3 1 (intRows w.outs)]
    rw [hm2, hl2]
  have hsame : (w.lives.map Live.enc).set i v.enc = w.lives.map Live.enc := by
    rw [← hm2]
    have : w.lives.set i v = w.lives := by
      obtain ⟨h1, h2⟩ := List.getElem?_eq_some_iff.1 hi
      rw [← h2]
      exact List.set_getElem_self h1
    rw [this]
  obtain ⟨q, hq⟩ : ∃ q, q = answeredL w.clock v a := ⟨_, rfl⟩
  rw [← hq]
  obtain ⟨⟨id, key, body, steps, done, out, back, left, status⟩, tries, due, write, put⟩ := v
  refine ConG.of T_ok Tryz.func99 rfl (by kernel_rfl) (by kernel_rfl) (aw_of T_ok (by kernel_rfl) ?_)
  conv => whnf
  refine ⟨hml, hml, rfl, hml, _, hrow, ?_⟩
  conv => whnf
  split <;> rename_i h1 <;> conv => whnf
  · have ha : a = 2 := by simpa using h1
    refine ⟨hml, hml, rfl, hml, _, hrow, ?_⟩
    conv => whnf
    refine ⟨hml, hml, rfl, hml, _, hrow, by decide, ?_⟩
    conv => whnf
    have hwt : IntKind.i64.wrap (tries + 1) = tries + 1 := wrapI (by have := ht; simp only at this; omega)
    have ct := long_con (IntKind.i64.wrap (tries + 1)) (by rw [hwt]; have := ht.1; simp only at this; omega) (by rw [hwt]; have := ht.2; simp only at this; omega)
    cases back with
    | true =>
      have hq' : q = (⟨⟨id, key, body, steps, done, out, true, left, status⟩, IntKind.i64.wrap (tries + 1), IntKind.i64.wrap (w.clock + longI (IntKind.i64.wrap (tries + 1))), write, put⟩, zRec, false) := by
        rw [hq, answeredL]; simp only; rw [if_pos ha]; rfl
      subst hq'
      conv => whnf
      refine AW.draw T_ok rfl (seqPl 0 15) (by kernel_rfl) (by kernel_rfl) ?_
      conv => whnf
      refine ⟨hsl _, hsl _, rfl, hsl _, _, hset _, ?_⟩
      conv => whnf
      refine callS ct rfl ?_
      conv => whnf
      refine ⟨hsl _, hsl _, rfl, hsl _, _, hset _, by decide, ?_⟩
      conv => whnf
      refine ⟨[], [0, 1, 2, 3], [encRec zRec, Bl false], [recN 0 0 0, Bl false], rfl, ?za, rfl, wkRec 0 0 0 false, rfl⟩
      rw [← hB]
      show some [_, _, Blk.arr _ 18 ((_ : List (List PV)).set i _ |>.set i _), _] = _
      rw [List.set_set]
      rfl
    | false =>
      conv => whnf
      refine ⟨hsl _, hsl _, rfl, hsl _, _, hset _, ?_⟩
      conv => whnf
      split <;> rename_i h2 <;> conv => whnf
      · have h2' : decide (IntKind.i64.wrap (tries + 1) < 4) = true := h2
        have hq' : q = (⟨⟨id, key, body, steps, done, out, false, left, status⟩, IntKind.i64.wrap (tries + 1), IntKind.i64.wrap (w.clock + longI (IntKind.i64.wrap (tries + 1))), write, put⟩, zRec, false) := by
          rw [hq, answeredL]; simp only; rw [if_pos ha, if_pos (by rw [h2']; rfl)]
        subst hq'
        conv => whnf
        refine AW.draw T_ok rfl (seqPl 0 15) (by kernel_rfl) (by kernel_rfl) ?_
        conv => whnf
        refine ⟨hsl _, hsl _, rfl, hsl _, _, hset _, ?_⟩
        conv => whnf
        refine callS ct rfl ?_
        conv => whnf
        refine ⟨hsl _, hsl _, rfl, hsl _, _, hset _, by decide, ?_⟩
        conv => whnf
        refine ⟨[], [0, 1, 2, 3], [encRec zRec, Bl false], [recN 0 0 0, Bl false], rfl, ?zb, rfl, wkRec 0 0 0 false, rfl⟩
        rw [← hB]
        show some [_, _, Blk.arr _ 18 ((_ : List (List PV)).set i _ |>.set i _), _] = _
        rw [List.set_set]
        rfl
      · have h2' : decide (IntKind.i64.wrap (tries + 1) < 4) = false := h2
        have hq' : q = (⟨⟨id, key, body, steps, done, out, false, left, status⟩, IntKind.i64.wrap (tries + 1), due, write, put⟩, ⟨4, id, 0, ⟨#[]⟩, ⟨#[]⟩, []⟩, true) := by
          rw [hq, answeredL]; simp only; rw [if_pos ha, if_neg (by rw [h2']; decide)]; rfl
        subst hq'
        conv => whnf
        refine ⟨[], [0, 1, 2, 3], [encRec ⟨4, id, 0, ⟨#[]⟩, ⟨#[]⟩, []⟩, Bl true], [recN 4 id 0, Bl true], rfl, ?zc, rfl, wkRec _ _ _ _, rfl⟩
        rw [← hB]
        rfl
  · have ha : ¬ a = 2 := by simpa using h1
    split <;> rename_i h3 <;> conv => whnf
    · have hb : a = 1 := by simpa using h3
      cases back with
      | true =>
        have hq' : q = (⟨⟨id, key, body, steps, done, out, true, left, status⟩, tries, due, write, put⟩, ⟨6, id, 3, ⟨#[]⟩, ⟨#[]⟩, []⟩, true) := by
          rw [hq, answeredL]; simp only; rw [if_neg ha, if_neg (fun h => by cases h.2), if_pos hb]; rfl
        subst hq'
        conv => whnf
        split <;> rename_i h4 <;> conv => whnf
        · refine ⟨[], [0, 1, 2, 3], [encRec ⟨6, id, 3, ⟨#[]⟩, ⟨#[]⟩, []⟩, Bl true], [recN 6 id 3, Bl true], rfl, ?zd, rfl, wkRec _ _ _ _, rfl⟩
          rw [← hB, hsame]
          rfl
        · have h4' : (a == 1) = false := h4
          rw [hb] at h4'
          cases h4'
      | false =>
        have hq' : q = (⟨⟨id, key, body, steps, done, out, false, left, status⟩, tries, due, write, put⟩, ⟨4, id, 0, ⟨#[]⟩, ⟨#[]⟩, []⟩, true) := by
          rw [hq, answeredL]; simp only; rw [if_neg ha, if_pos (by first | exact ⟨hb, rfl⟩ | exact ⟨hb, trivial⟩)]; rfl
        subst hq'
        conv => whnf
        refine ⟨[], [0, 1, 2, 3], [encRec ⟨4, id, 0, ⟨#[]⟩, ⟨#[]⟩, []⟩, Bl true], [recN 4 id 0, Bl true], rfl, ?ze, rfl, wkRec _ _ _ _, rfl⟩
        rw [← hB, hsame]
        rfl
    · have hb : ¬ a = 1 := by simpa using h3
      split <;> rename_i h5 <;> conv => whnf
      · have h5' : (a == 1) = true := h5
        exact absurd (by simpa using h5') hb
      cases back with
      | true =>
        have hq' : q = (⟨⟨id, key, body, steps, done, out, true, left, status⟩, tries, due, write, put⟩, ⟨5, id, IntKind.i64.wrap (left - 1), ⟨#[]⟩, ⟨#[]⟩, []⟩, true) := by
          rw [hq, answeredL]; simp only; rw [if_neg ha, if_neg (fun h => by cases h.2), if_neg hb]; rfl
        subst hq'
        conv => whnf
        refine ⟨[], [0, 1, 2, 3], [encRec ⟨5, id, IntKind.i64.wrap (left - 1), ⟨#[]⟩, ⟨#[]⟩, []⟩, Bl true], [recN 5 id (IntKind.i64.wrap (left - 1)), Bl true], rfl, ?zf, rfl, wkRec _ _ _ _, rfl⟩
        rw [← hB, hsame]
        rfl
      | false =>
        have hq' : q = (⟨⟨id, key, body, steps, done, out, false, left, status⟩, tries, due, write, put⟩, ⟨3, id, done, ⟨#[]⟩, ⟨#[]⟩, []⟩, true) := by
          rw [hq, answeredL]; simp only; rw [if_neg ha, if_neg (fun h => hb h.1), if_neg hb]; rfl
        subst hq'
        conv => whnf
        refine ⟨[], [0, 1, 2, 3], [encRec ⟨3, id, done, ⟨#[]⟩, ⟨#[]⟩, []⟩, Bl true], [recN 3 id done, Bl true], rfl, ?zg, rfl, wkRec _ _ _ _, rfl⟩
        rw [← hB, hsame]
        rfl
end Go.Proofs.YtlkbokedadngfaaGreatDoor.Rx

/- Rows weakened: a nil slice stands for no rows. -/
set_option linter.unusedVariables false
set_option linter.unusedSimpArgs false
namespace Go.Rx
open Go.RowKit
theorem wkP_refl (p : PV) : WkP p p := fun _ _ _ h => h
theorem wkP_nil (sz : Nat) : WkP (.sc (.slice none 0 0)) (.sl sz []) := fun S w v h => by
  cases h
  exact RepP.nil sz
theorem fa_reflX {α : Type} {R : α → α → Prop} (h : ∀ a, R a a) : ∀ l : List α, Fa R l l
  | [] => trivial
  | a :: l => ⟨h a, fa_reflX h l⟩
theorem fa_setX {α : Type} {R : α → α → Prop} (h : ∀ a, R a a) {a b : α} (hab : R a b) : ∀ (l : List α) (i : Nat), Fa R (l.set i a) (l.set i b)
  | [], _ => trivial
  | _ :: l, 0 => ⟨hab, fa_reflX h l⟩
  | x :: l, i + 1 => ⟨h x, fa_setX h hab l i⟩
theorem fa_get' {α : Type} {R : α → α → Prop} : ∀ {l m : List α}, Fa R l m → ∀ {i : Nat} {b : α}, m[i]? = some b → ∃ a, l[i]? = some a ∧ R a b
  | [], [], _, i, b, h => by simp at h
  | x :: l, y :: m, h, 0, b, e => ⟨x, rfl, by simp at e; exact e ▸ h.1⟩
  | x :: l, y :: m, h, i + 1, b, e => by simpa using fa_get' h.2 (i := i) (by simpa using e)
  | [], _ :: _, h, _, _, _ => h.elim
  | _ :: _, [], h, _, _, _ => h.elim
section
variable {P : Program} {C : Ctx} {G : Gh} {bk : List Blk} {w : World}
theorem Mem.wkArr (h : Mem C G bk w) {b e sz : Nat} {rows rows' : List (List PV)} (hb : bk[b]? = some (.arr e sz rows)) (hr : Fa (Fa WkP) rows rows') :
    Trn G bk w G (bk.set b (.arr e sz rows')) w ∧ Mem C G (bk.set b (.arr e sz rows')) w := by
  have hbl : b < bk.length := (List.getElem?_eq_some_iff.1 hb).1
  have hl : rows.length = rows'.length := hr.length
  have gb : (bk.set b (.arr e sz rows'))[b]? = some (.arr e sz rows') := List.getElem?_set_self hbl
  have g0 : ∀ i, i ≠ b → (bk.set b (.arr e sz rows'))[i]? = bk[i]? := fun i hn => List.getElem?_set_ne (Ne.symm hn)
  have hrb : rowsOf bk b = some (sz, rows) := by unfold rowsOf; rw [hb]
  have hro : ∀ i, i ≠ b → rowsOf (bk.set b (.arr e sz rows')) i = rowsOf bk i := fun i hn => by unfold rowsOf; rw [g0 i hn]
  have hrn : rowsOf (bk.set b (.arr e sz rows')) b = some (sz, rows') := by unfold rowsOf; rw [gb]
  have hal : ∀ i, Alive (bk.set b (.arr e sz rows')) i → Alive bk i := fun i ha => by
    by_cases hn : i = b
    · subst hn; unfold Alive; rw [hb]; trivial
    · unfold Alive at ha ⊢; rw [g0 i hn] at ha; exact ha
  have hlen : (bk.set b (.arr e sz rows')).length = bk.length := by simp
  have t : Trn G bk w G (bk.set b (.arr e sz rows')) w := by
    refine ⟨fun _ _ h => h, fun _ _ _ => rfl, by rw [hlen]; exact Nat.le_refl _, fun i hi hn => ?_, fun i s r hn => ?_⟩
    · have : i ≠ b := fun e0 => by subst e0; rw [hrb] at hn; cases hn
      exact ⟨by rw [hro i this]; exact hn, rfl⟩
    · by_cases e0 : i = b
      · subst e0
        rw [hrb] at hn
        cases hn
        exact ⟨rows', hrn, by omega, fun _ => ⟨rfl, rfl⟩⟩
      · exact ⟨r, by rw [hro i e0]; exact hn, Nat.le_refl _, fun _ => ⟨rfl, rfl⟩⟩
  refine ⟨t, ⟨fun i B hB => ?_, fun i j g hi hj => h.inj i j g (by rw [hlen] at hi; exact hi) (by rw [hlen] at hj; exact hj), fun g o i hs ha => h.sdis g o i hs (hal i ha), h.slt, fun i g hi => h.mlt i g (by rw [hlen] at hi; exact hi), fun i g hi => h.new i g (by rw [hlen] at hi; exact hi), h.s0, h.snew, h.os, h.tape, h.output, h.size, h.block, by rw [hlen]; exact h.mle, h.t0.trans t⟩⟩
  by_cases hn : i = b
  · subst hn
    rw [gb] at hB
    cases hB
    rcases h.blk i _ hb with ⟨h1, h2⟩ | ⟨g, cur, h1, h2, h3, h4, h5, h6⟩
    · subst h2
      exact .inl ⟨h1, List.eq_nil_of_length_eq_zero hl.symm⟩
    · refine .inr ⟨g, cur, h1, h2, h3, h4, by omega, fun j r' hj => ?_⟩
      obtain ⟨r, hj', hrr⟩ := fa_get' hr hj
      obtain ⟨k1, k2⟩ := h6 j r hj'
      refine ⟨by rw [← hrr.length]; exact k1, fun c p' hc => ?_⟩
      obtain ⟨p, hc', hp⟩ := fa_get' hrr hc
      obtain ⟨u, hu, hrep⟩ := k2 c p hc'
      exact ⟨u, hu, hp _ _ _ hrep⟩
  · rw [g0 i hn] at hB
    exact RepB.step t rfl rfl (fun _ _ => rfl) (h.blk i B hB)
theorem ConG.wk {f : FuncId} {B0 B1 : List Blk} {args : List AV} {r : AV} (hc : ConG P f B0 args r B1) {b e sz : Nat} {rows rows' : List (List PV)} (hb : B1[b]? = some (.arr e sz rows)) (hr : Fa (Fa WkP) rows rows') :
    ConG P f B0 args r (B1.set b (.arr e sz rows')) := by
  refine ⟨hc.1, fun w G0 us hm ha => (hc.2 w G0 us hm ha).mono ?_⟩
  rintro e' w' ⟨u, G', rfl, h1, h2⟩
  obtain ⟨t, m⟩ := h2.wkArr hb hr
  exact ⟨u, G', rfl, t.repA h1, m⟩
end
end Go.Rx

/- A step: a record written. -/
set_option linter.unusedVariables false
set_option linter.unusedSimpArgs false
namespace Go.Proofs.YtlkbokedadngfaaGreatDoor.Rx
open Go.Rx Go.Proofs Go.Proofs.YtlkbokedadngfaaGreatDoor.RxH
theorem mvSet (w : Wd) (i : Nat) (v' : Live) : [Blk.var [.pv (pI w.clock), .pv (pS w.file.safe), .pv (pS w.file.tail), .pv (pI w.file.cap), .own 1 w.ledgers.length, .own 2 w.lives.length, .own 3 w.outs.length, .pv (pI w.taken)],
      .arr 59 3 (w.ledgers.map Ledger.enc), .arr 43 18 ((w.lives.map Live.enc).set i v'.enc), .arr 3 1 (intRows w.outs)] = mvB (setLive w i v') := by
  have hm2 : (w.lives.set i v').map Live.enc = (w.lives.map Live.enc).set i v'.enc := List.map_set
  have hl2 : (w.lives.set i v').length = w.lives.length := List.length_set
  show _ = [Blk.var [.pv (pI w.clock), .pv (pS w.file.safe), .pv (pS w.file.tail), .pv (pI w.file.cap), .own 1 w.ledgers.length, .own 2 (w.lives.set i v').length, .own 3 w.outs.length, .pv (pI w.taken)],
      .arr 59 3 (w.ledgers.map Ledger.enc), .arr 43 18 ((w.lives.set i v').map Live.enc), .arr 3 1 (intRows w.outs)]
  rw [hm2, hl2]
/-- The record is appended. -/
theorem writtenA_con (w : Wd) (i : Nat) (v : Live) (hi : w.lives[i]? = some v) (hf : w.file.Ok) (hv : v.Ok) (hp : v.put = false) (he : (jappP w.file v.write).2 = 0) :
    ConG P 66 (mvB w) [.lf (.ptr 0 0), .lf (.ept 2 w.lives.length i 18 0)] nilI (mvB (setLive { w with file := (jappP w.file v.write).1 } i { v with put := true })) := by
  have hml : (w.lives.map Live.enc).length = w.lives.length := List.length_map ..
  have hrow : (w.lives.map Live.enc)[i]? = some v.enc := by rw [List.getElem?_map, hi]; rfl
  have ca := jappend_con w.file hf v.write hv.write
  generalize jappP w.file v.write = x at ca he
  obtain ⟨f', e⟩ := x
  simp only at he
  subst he
  rw [← mvSet]
  obtain ⟨s, tries, due, write, put⟩ := v
  simp only at hp
  subst hp
  refine ConG.of T_ok Tryz.func66 rfl (by kernel_rfl) (by kernel_rfl) (aw_of T_ok (by kernel_rfl) ?_)
  conv => whnf
  refine ⟨hml, hml, rfl, hml, _, hrow, ?_⟩
  conv => whnf
  refine AW.draw T_ok rfl (.one 0 (.one 1 (.one 2 (.one 3 (.one 4 (.one 5 (.one 6 (.one 7 (.one 8 (.two 9 (listPl [10, 11, 12, 13, 14, 15]) 13 (listPl [9, 10, 11, 12, 14, 15]))))))))))) (by kernel_rfl) (by kernel_rfl) ?_
  conv => whnf
  refine ⟨hml, hml, rfl, hml, _, hrow, ?_⟩
  conv => whnf
  refine ⟨?_, ?_⟩ <;> conv => whnf
  · refine callU ca (fun _ => rfl) ?_
    conv => whnf
    refine ⟨hml, hml, rfl, hml, _, hrow, by decide, ?_⟩
    conv => whnf
    exact ⟨[], [0, 1, 2, 3], [nilI], [nilI], rfl, rfl, rfl, wk_refl _, rfl⟩
  · refine callU ca (fun _ => rfl) ?_
    conv => whnf
    refine ⟨hml, hml, rfl, hml, _, hrow, by decide, ?_⟩
    conv => whnf
    exact ⟨[], [0, 1, 2, 3], [nilI], [nilI], rfl, rfl, rfl, wk_refl _, rfl⟩
/-- The record is synced, and applied. -/
theorem writtenS_con (w : Wd) (i : Nat) (v : Live) (hi : w.lives[i]? = some v) (hf : w.file.Ok) (hv : v.Ok) (hp : v.put = true) :
    ConG P 66 (mvB w) [.lf (.ptr 0 0), .lf (.ept 2 w.lives.length i 18 0)] nilI (mvB (setLive { w with file := (crashP w.file w.file.tail.size).1 } i ⟨nextS v.saga v.write, 0, w.clock, zRec, false⟩)) := by
  have hml : (w.lives.map Live.enc).length = w.lives.length := List.length_map ..
  have hrow : (w.lives.map Live.enc)[i]? = some v.enc := by rw [List.getElem?_map, hi]; rfl
  have hil : i < w.lives.length := (List.getElem?_eq_some_iff.1 hi).1
  have hset : ∀ r, ((w.lives.map Live.enc).set i r)[i]? = some r := fun r => List.getElem?_set_self (by rw [hml]; exact hil)
  have hsl : ∀ r, ((w.lives.map Live.enc).set i r).length = w.lives.length := fun r => by rw [List.length_set, hml]
  have cf := fsync_con w.file hf
  have cn := next_con v.saga v.write hv.saga.steps.len
  generalize crashP w.file w.file.tail.size = x at cf
  obtain ⟨f', e⟩ := x
  generalize nextS v.saga v.write = s' at cn
  rw [← mvSet]
  obtain ⟨s, tries, due, write, put⟩ := v
  simp only at hp
  subst hp
  have hrw : Fa WkP [pI s'.id, pS s'.key, pS s'.body, encSteps s'.steps, pI s'.done, pB s'.out, pB s'.back, pI s'.left, pI s'.status, pI 0, pI w.clock, pI 0, pI 0, pI 0, pS ⟨#[]⟩, pS ⟨#[]⟩, .sc (.slice none 0 0), pB false] (Live.enc ⟨s', 0, w.clock, zRec, false⟩) :=
    ⟨wkP_refl _, wkP_refl _, wkP_refl _, wkP_refl _, wkP_refl _, wkP_refl _, wkP_refl _, wkP_refl _, wkP_refl _, wkP_refl _, wkP_refl _, wkP_refl _, wkP_refl _, wkP_refl _, wkP_refl _, wkP_refl _, wkP_nil 6, wkP_refl _, trivial⟩
  have hwk : Fa (Fa WkP) ((w.lives.map Live.enc).set i [pI s'.id, pS s'.key, pS s'.body, encSteps s'.steps, pI s'.done, pB s'.out, pB s'.back, pI s'.left, pI s'.status, pI 0, pI w.clock, pI 0, pI 0, pI 0, pS ⟨#[]⟩, pS ⟨#[]⟩, .sc (.slice none 0 0), pB false]) ((w.lives.map Live.enc).set i (Live.enc ⟨s', 0, w.clock, zRec, false⟩)) := fa_setX (fun _ => fa_reflX wkP_refl _) hrw _ _
  refine ConG.wk (b := 2) (B1 := [Blk.var [.pv (pI w.clock), .pv (pS f'.safe), .pv (pS f'.tail), .pv (pI f'.cap), .own 1 w.ledgers.length, .own 2 w.lives.length, .own 3 w.outs.length, .pv (pI w.taken)],
      .arr 59 3 (w.ledgers.map Ledger.enc), .arr 43 18 ((w.lives.map Live.enc).set i [pI s'.id, pS s'.key, pS s'.body, encSteps s'.steps, pI s'.done, pB s'.out, pB s'.back, pI s'.left, pI s'.status, pI 0, pI w.clock, pI 0, pI 0, pI 0, pS ⟨#[]⟩, pS ⟨#[]⟩, .sc (.slice none 0 0), pB false]), .arr 3 1 (intRows w.outs)]) ?_ rfl hwk
  refine ConG.of T_ok Tryz.func66 rfl (by kernel_rfl) (by kernel_rfl) (aw_of T_ok (by kernel_rfl) ?_)
  conv => whnf
  refine ⟨hml, hml, rfl, hml, _, hrow, ?_⟩
  conv => whnf
  refine callU cf (fun _ => rfl) ?_
  conv => whnf
  refine AW.draw T_ok rfl (seqPl 0 13) (by kernel_rfl) (by kernel_rfl) ?_
  conv => whnf
  refine ⟨hml, hml, rfl, hml, _, hrow, ?_⟩
  conv => whnf
  refine ⟨hml, hml, rfl, hml, _, hrow, ?_⟩
  conv => whnf
  refine callU cn (fun _ => rfl) ?_
  conv => whnf
  refine ⟨hml, hml, rfl, hml, _, hrow, by decide, ?_⟩
  conv => whnf
  refine AW.draw T_ok rfl (seqPl 0 13) (by kernel_rfl) (by kernel_rfl) ?_
  conv => whnf
  refine ⟨hsl _, hsl _, rfl, hsl _, _, hset _, ?_⟩
  conv => whnf
  refine ⟨hsl _, rfl, hsl _, _, hset _, by decide, ?_⟩
  conv => whnf
  refine ⟨[], [0, 1, 2, 3], [nilI], [nilI], rfl, ?zz, rfl, wk_refl _, rfl⟩
  show some [_, _, Blk.arr _ 18 ((_ : List (List PV)).set i _ |>.set i _), _] = _
  rw [List.set_set]
  rfl
end Go.Proofs.YtlkbokedadngfaaGreatDoor.Rx

/- A step: what comes next. -/
set_option linter.unusedVariables false
set_option linter.unusedSimpArgs false
namespace Go.Rx
abbrev Live.encN (v : Live) (k id n : Int) : List PV := [pI v.saga.id, pS v.saga.key, pS v.saga.body, encSteps v.saga.steps, pI v.saga.done, pB v.saga.out, pB v.saga.back, pI v.saga.left, pI v.saga.status, pI v.tries, pI v.due, pI k, pI id, pI n, pS ⟨#[]⟩, pS ⟨#[]⟩, .sc (.slice none 0 0), pB v.put]
theorem encN_wk (v : Live) (k id n : Int) : Fa WkP (v.encN k id n) (Live.enc { v with write := ⟨k, id, n, ⟨#[]⟩, ⟨#[]⟩, []⟩ }) :=
  ⟨wkP_refl _, wkP_refl _, wkP_refl _, wkP_refl _, wkP_refl _, wkP_refl _, wkP_refl _, wkP_refl _, wkP_refl _, wkP_refl _, wkP_refl _, wkP_refl _, wkP_refl _, wkP_refl _, wkP_refl _, wkP_refl _, wkP_nil 6, wkP_refl _, trivial⟩
end Go.Rx
namespace Go.Proofs.YtlkbokedadngfaaGreatDoor.Rx
open Go.Rx Go.Proofs Go.Proofs.YtlkbokedadngfaaGreatDoor.RxH
/-- A record without a call. -/
theorem nextR_con (w : Wd) (i : Nat) (v : Live) (k n : Int) (hi : w.lives[i]? = some v)
    (hc : (v.saga.back = false ∧ (v.saga.done == (v.saga.steps.length : Int)) = true ∧ k = 6 ∧ n = 1) ∨ (v.saga.back = true ∧ (v.saga.left == 0) = true ∧ k = 6 ∧ n = 2) ∨ (v.saga.back = false ∧ (v.saga.done == (v.saga.steps.length : Int)) = false ∧ v.saga.out = false ∧ k = 2 ∧ n = v.saga.done)) :
    ConG P 65 (mvB w) [.lf (.ptr 0 0), .lf (.ept 2 w.lives.length i 18 0)] nilI (mvB (setLive w i { v with write := ⟨k, v.saga.id, n, ⟨#[]⟩, ⟨#[]⟩, []⟩ })) := by
  have hml : (w.lives.map Live.enc).length = w.lives.length := List.length_map ..
  have hrow : (w.lives.map Live.enc)[i]? = some v.enc := by rw [List.getElem?_map, hi]; rfl
  have hwk : Fa (Fa WkP) ((w.lives.map Live.enc).set i (v.encN k v.saga.id n)) ((w.lives.map Live.enc).set i (Live.enc { v with write := ⟨k, v.saga.id, n, ⟨#[]⟩, ⟨#[]⟩, []⟩ })) := fa_setX (fun _ => fa_reflX wkP_refl _) (encN_wk v k v.saga.id n) _ _
  rw [← mvSet]
  refine ConG.wk (b := 2) (B1 := [Blk.var [.pv (pI w.clock), .pv (pS w.file.safe), .pv (pS w.file.tail), .pv (pI w.file.cap), .own 1 w.ledgers.length, .own 2 w.lives.length, .own 3 w.outs.length, .pv (pI w.taken)],
      .arr 59 3 (w.ledgers.map Ledger.enc), .arr 43 18 ((w.lives.map Live.enc).set i (v.encN k v.saga.id n)), .arr 3 1 (intRows w.outs)]) ?_ rfl hwk
  obtain ⟨⟨id, key, body, steps, done, out, back, left, status⟩, tries, due, write, put⟩ := v
  have hsm : (steps.map Step.enc).length = steps.length := List.length_map ..
  simp only at hc
  refine ConG.of T_ok Tryz.func65 rfl (by kernel_rfl) (by kernel_rfl) (aw_of T_ok (by kernel_rfl) ?_)
  conv => whnf
  refine ⟨hml, hml, rfl, hml, _, hrow, ?_⟩
  conv => whnf
  rcases hc with ⟨hb, hd, rfl, rfl⟩ | ⟨hb, hl, rfl, rfl⟩ | ⟨hb, hd, ho, rfl, rfl⟩
  · subst hb
    conv => whnf
    split <;> rename_i h1 <;> conv => whnf
    · refine ⟨hml, hml, rfl, hml, _, hrow, by decide, ?_⟩
      conv => whnf
      exact ⟨[], [0, 1, 2, 3], [nilI], [nilI], rfl, rfl, rfl, wk_refl _, rfl⟩
    · have h1' : (done == ((steps.map Step.enc).length : Int)) = false := h1
      rw [hsm, hd] at h1'
      cases h1'
  · subst hb
    conv => whnf
    split <;> rename_i h1 <;> conv => whnf
    · refine ⟨hml, hml, rfl, hml, _, hrow, by decide, ?_⟩
      conv => whnf
      exact ⟨[], [0, 1, 2, 3], [nilI], [nilI], rfl, rfl, rfl, wk_refl _, rfl⟩
    · have h1' : (left == 0) = false := h1
      rw [hl] at h1'
      cases h1'
  · subst hb ho
    conv => whnf
    split <;> rename_i h1 <;> conv => whnf
    · have h1' : (_ == ((steps.map Step.enc).length : Int)) = true := h1
      rw [hsm, hd] at h1'
      cases h1'
    · refine ⟨hml, hml, rfl, hml, _, hrow, by decide, ?_⟩
      conv => whnf
      exact ⟨[], [0, 1, 2, 3], [nilI], [nilI], rfl, rfl, rfl, wk_refl _, rfl⟩
end Go.Proofs.YtlkbokedadngfaaGreatDoor.Rx

/- A step: a call. -/
set_option linter.unusedVariables false
set_option linter.unusedSimpArgs false
namespace Go.Proofs.YtlkbokedadngfaaGreatDoor.Rx
open Go.Rx Go.Proofs Go.Proofs.YtlkbokedadngfaaGreatDoor.RxH
set_option maxHeartbeats 1000000 in
theorem nextC_con (w : Wd) (i : Nat) (v : Live) (hi : w.lives[i]? = some v) (ht : -1 ≤ v.tries ∧ v.tries ≤ 4611686018427387903)
    (hb : (!v.saga.back && (v.saga.done == (v.saga.steps.length : Int))) = false) (hl : (v.saga.back && (v.saga.left == 0)) = false) (ho : (!v.saga.back && !v.saga.out) = false) (hc : CallOk w v.saga) (he : (doneAt w v.saga).2.2 = 0) :
    ConG P 65 (mvB w) [.lf (.ptr 0 0), .lf (.ept 2 w.lives.length i 18 0)] nilI (mvB (setLive (calledW w v.saga) i (nextW w v).2.1)) := by
  have hml : (w.lives.map Live.enc).length = w.lives.length := List.length_map ..
  have hrow : (w.lives.map Live.enc)[i]? = some v.enc := by rw [List.getElem?_map, hi]; rfl
  have cc := called_con w v.saga hc he
  have ca : ConG P 99 (mvB (calledW w v.saga)) [.lf (.ptr 0 0), .lf (.ept 2 (calledW w v.saga).lives.length i 18 0), Go.Rx.I (doneAt w v.saga).2.1] (.tup [recT (answeredL w.clock v (doneAt w v.saga).2.1).2.1, .lf (.pv (pB (answeredL w.clock v (doneAt w v.saga).2.1).2.2))]) (mvB (setLive (calledW w v.saga) i (answeredL w.clock v (doneAt w v.saga).2.1).1)) := answered_con (calledW w v.saga) i v (doneAt w v.saga).2.1 hi ht
  have hn : (nextW w v).2.1 = if (answeredL w.clock v (doneAt w v.saga).2.1).2.2 then { (answeredL w.clock v (doneAt w v.saga).2.1).1 with write := (answeredL w.clock v (doneAt w v.saga).2.1).2.1 } else (answeredL w.clock v (doneAt w v.saga).2.1).1 := by
    rw [nextW]
    simp only
    rw [if_neg (by rw [hb]; decide), if_neg (by rw [hl]; decide), if_neg (by rw [ho]; decide), if_pos he]
  have hm : mvB (calledW w v.saga) = mvB (calledW w v.saga) := rfl
  rw [hn]
  generalize answeredL w.clock v (doneAt w v.saga).2.1 = q at ca
  generalize (doneAt w v.saga).2.1 = a at cc ca
  generalize hW : calledW w v.saga = W at cc ca
  have hlv : W.lives = w.lives := by rw [← hW]; rfl
  obtain ⟨v', r, b⟩ := q
  have hil : i < W.lives.length := by rw [hlv]; exact (List.getElem?_eq_some_iff.1 hi).1
  have hml2 : ((W.lives.set i v').map Live.enc).length = w.lives.length := by rw [List.length_map, List.length_set, hlv]
  have hrow2 : ((W.lives.set i v').map Live.enc)[i]? = some v'.enc := by rw [List.getElem?_map, List.getElem?_set_self hil]; rfl
  have hend : [Blk.var [.pv (pI W.clock), .pv (pS W.file.safe), .pv (pS W.file.tail), .pv (pI W.file.cap), .own 1 W.ledgers.length, .own 2 (W.lives.set i v').length, .own 3 W.outs.length, .pv (pI W.taken)],
      .arr 59 3 (W.ledgers.map Ledger.enc), .arr 43 18 (((W.lives.set i v').map Live.enc).set i (Live.enc { v' with write := r })), .arr 3 1 (intRows W.outs)] = mvB (setLive W i { v' with write := r }) := by
    have e1 : (W.lives.set i { v' with write := r }).map Live.enc = ((W.lives.set i v').map Live.enc).set i (Live.enc { v' with write := r }) := by
      rw [← List.map_set, List.set_set]
    have e2 : (W.lives.set i { v' with write := r }).length = (W.lives.set i v').length := by rw [List.length_set, List.length_set]
    show _ = [Blk.var [.pv (pI W.clock), .pv (pS W.file.safe), .pv (pS W.file.tail), .pv (pI W.file.cap), .own 1 W.ledgers.length, .own 2 (W.lives.set i { v' with write := r }).length, .own 3 W.outs.length, .pv (pI W.taken)],
      .arr 59 3 (W.ledgers.map Ledger.enc), .arr 43 18 ((W.lives.set i { v' with write := r }).map Live.enc), .arr 3 1 (intRows W.outs)]
    rw [e1, e2]
  rw [hlv] at ca
  clear hn hm hW
  obtain ⟨⟨id, key, body, steps, done, out, back, left, status⟩, tries, due, write, put⟩ := v
  have hsm : (steps.map Step.enc).length = steps.length := List.length_map ..
  simp only at hb hl ho
  refine ConG.of T_ok Tryz.func65 rfl (by kernel_rfl) (by kernel_rfl) (aw_ofC T_ok 2006 (by kernel_rfl) ?_)
  conv => whnf
  refine ⟨hml, hml, rfl, hml, _, hrow, ?_⟩
  conv => whnf
  cases back with
  | true =>
    conv => whnf
    split <;> rename_i h1 <;> conv => whnf
    · have h1' : (left == 0) = true := h1
      rw [h1'] at hl
      cases hl
    refine ⟨[0, 1, 2, 3], _, _, _, _, _, nodupB_ok rfl, rfl, rfl, wk_refl _, cc, ?_⟩
    conv => whnf
    refine ⟨rfl, ?_⟩
    conv => whnf
    refine ⟨[0, 1, 2, 3], _, _, _, _, _, nodupB_ok rfl, rfl, rfl, wk_refl _, ca, ?_⟩
    conv => whnf
    refine AW.meet (fun _ : Unit => True) (fun _ => [(0, .lf (.ptr 0 0)), (1, .lf (.ept 2 w.lives.length i 18 0)), (8, .lf (.ptr 5 0)), (9, Bl b)])
      (fun _ => mvB (setLive W i v') ++ [.var [.pv (pI id), .pv (pS key), .pv (pS body), .pv (encSteps steps), .pv (pI done), .pv (pB out), .pv (pB true), .pv (pI left), .pv (pI status)],
        .var [.pv (pI r.kind), .pv (pI r.id), .pv (pI r.n), .pv (pS r.key), .pv (pS r.body), .pv (encSteps r.steps)]]) [] ?_ ?_
    · exact ⟨(), trivial, ⟨rfl, rfl, rfl, rfl, trivial⟩, ⟨[], rfl⟩, rfl, rfl⟩
    rintro _ _
    refine aw_of T_ok (by kernel_rfl) ?_
    conv => whnf
    cases b with
    | true =>
      conv => whnf
      refine ⟨hml2, hml2, rfl, hml2, _, hrow2, by decide, ?_⟩
      conv => whnf
      refine ⟨[], [0, 1, 2, 3], [nilI], [nilI], rfl, ?zt, rfl, wk_refl _, rfl⟩
      show _ = some (mvB (setLive W i { v' with write := r }))
      rw [← hend]
      rfl
    | false =>
      conv => whnf
      refine ⟨[], [0, 1, 2, 3], [nilI], [nilI], rfl, ?zf, rfl, wk_refl _, rfl⟩
      show _ = some (mvB (setLive W i v'))
      rfl
  | false =>
    cases out with
    | false => cases ho
    | true =>
    conv => whnf
    split <;> rename_i h1 <;> conv => whnf
    · have h1' : (done == ((steps.map Step.enc).length : Int)) = true := h1
      rw [hsm] at h1'
      rw [h1'] at hb
      cases hb
    refine ⟨[0, 1, 2, 3], _, _, _, _, _, nodupB_ok rfl, rfl, rfl, wk_refl _, cc, ?_⟩
    conv => whnf
    refine ⟨rfl, ?_⟩
    conv => whnf
    refine ⟨[0, 1, 2, 3], _, _, _, _, _, nodupB_ok rfl, rfl, rfl, wk_refl _, ca, ?_⟩
    conv => whnf
    refine AW.meet (fun _ : Unit => True) (fun _ => [(0, .lf (.ptr 0 0)), (1, .lf (.ept 2 w.lives.length i 18 0)), (8, .lf (.ptr 5 0)), (9, Bl b)])
      (fun _ => mvB (setLive W i v') ++ [.var [.pv (pI id), .pv (pS key), .pv (pS body), .pv (encSteps steps), .pv (pI done), .pv (pB true), .pv (pB false), .pv (pI left), .pv (pI status)],
        .var [.pv (pI r.kind), .pv (pI r.id), .pv (pI r.n), .pv (pS r.key), .pv (pS r.body), .pv (encSteps r.steps)]]) [] ?_ ?_
    · exact ⟨(), trivial, ⟨rfl, rfl, rfl, rfl, trivial⟩, ⟨[], rfl⟩, rfl, rfl⟩
    rintro _ _
    refine aw_of T_ok (by kernel_rfl) ?_
    conv => whnf
    cases b with
    | true =>
      conv => whnf
      refine ⟨hml2, hml2, rfl, hml2, _, hrow2, by decide, ?_⟩
      conv => whnf
      refine ⟨[], [0, 1, 2, 3], [nilI], [nilI], rfl, ?zt2, rfl, wk_refl _, rfl⟩
      show _ = some (mvB (setLive W i { v' with write := r }))
      rw [← hend]
      rfl
    | false =>
      conv => whnf
      refine ⟨[], [0, 1, 2, 3], [nilI], [nilI], rfl, ?zf2, rfl, wk_refl _, rfl⟩
      show _ = some (mvB (setLive W i v'))
      rfl
end Go.Proofs.YtlkbokedadngfaaGreatDoor.Rx

/- A step, whole. -/
set_option linter.unusedVariables false
set_option linter.unusedSimpArgs false
namespace Go.Rx
/-- A live may go on. -/
structure MoveOk (w : Wd) (v : Live) : Prop where
  file : w.file.Ok
  live : v.Ok
  tries : -1 ≤ v.tries ∧ v.tries ≤ 4611686018427387903
  call : v.write.kind = 0 → (!v.saga.back && (v.saga.done == (v.saga.steps.length : Int))) = false → (v.saga.back && (v.saga.left == 0)) = false → (!v.saga.back && !v.saga.out) = false → CallOk w v.saga
theorem due_go {c : Int} {l : List Live} {k : Nat} (h : k < l.length) : dueGo c (l.drop k) k = if dueB c l[k] then some k else dueGo c (l.drop (k + 1)) (k + 1) := by
  rw [List.drop_eq_getElem_cons h, dueGo]
theorem due_end {c : Int} {l : List Live} {k : Nat} (h : l.length ≤ k) : dueGo c (l.drop k) k = none := by rw [List.drop_of_length_le h, dueGo]
theorem dueGo_some {c : Int} : ∀ {l : List Live} {k i : Nat}, dueGo c l k = some i → k ≤ i ∧ ∃ v, l[i - k]? = some v ∧ dueB c v = true
  | [], k, i, h => by simp [dueGo] at h
  | v :: l, k, i, h => by
    rw [dueGo] at h
    split at h
    · rename_i hv
      cases h
      exact ⟨Nat.le_refl _, v, by simp, hv⟩
    · obtain ⟨h1, v', h2, h3⟩ := dueGo_some h
      refine ⟨by omega, v', ?_, h3⟩
      have : i - k = (i - (k + 1)) + 1 := by omega
      rw [this]; simpa using h2
theorem dueI_some {w : Wd} {i : Nat} (h : dueI w = some i) : ∃ v, w.lives[i]? = some v ∧ dueB w.clock v = true := by
  obtain ⟨_, v, h2, h3⟩ := dueGo_some h
  exact ⟨v, by simpa using h2, h3⟩
theorem nextW_lives (w : Wd) (v : Live) : (nextW w v).1.lives = w.lives := by
  rw [nextW]
  simp only
  split
  · rfl
  split
  · rfl
  split
  · rfl
  split <;> rfl
theorem writtenW_lives (w : Wd) (v : Live) : (writtenW w v).1.lives = w.lives := by
  rw [writtenW]
  split
  · rfl
  split <;> rfl
theorem moveW_lives (w : Wd) (v : Live) : (moveW w v).1.lives = w.lives := by
  rw [moveW]
  split
  · exact writtenW_lives w v
  · exact nextW_lives w v
end Go.Rx
namespace Go.Proofs.YtlkbokedadngfaaGreatDoor.Rx
open Go.Rx Go.Proofs Go.Proofs.YtlkbokedadngfaaGreatDoor.RxH
theorem next_conW (w : Wd) (i : Nat) (v : Live) (hi : w.lives[i]? = some v) (h : MoveOk w v) (hw : v.write.kind = 0) (he : (nextW w v).2.2 = 0) :
    ConG P 65 (mvB w) [.lf (.ptr 0 0), .lf (.ept 2 w.lives.length i 18 0)] nilI (mvB (setLive (nextW w v).1 i (nextW w v).2.1)) := by
  have hc := h.call hw
  cases h1 : (!v.saga.back && (v.saga.done == (v.saga.steps.length : Int))) with
  | true =>
    have e : nextW w v = (w, { v with write := { zRec with kind := 6, id := v.saga.id, n := 1 } }, 0) := by rw [nextW]; simp only; rw [if_pos h1]
    rw [e]
    rw [Bool.and_eq_true] at h1
    exact nextR_con w i v 6 1 hi (.inl ⟨by simpa using h1.1, h1.2, rfl, rfl⟩)
  | false =>
  cases h2 : (v.saga.back && (v.saga.left == 0)) with
  | true =>
    have e : nextW w v = (w, { v with write := { zRec with kind := 6, id := v.saga.id, n := 2 } }, 0) := by rw [nextW]; simp only; rw [if_neg (by rw [h1]; decide), if_pos h2]
    rw [e]
    rw [Bool.and_eq_true] at h2
    exact nextR_con w i v 6 2 hi (.inr (.inl ⟨h2.1, h2.2, rfl, rfl⟩))
  | false =>
  cases h3 : (!v.saga.back && !v.saga.out) with
  | true =>
    have e : nextW w v = (w, { v with write := { zRec with kind := 2, id := v.saga.id, n := v.saga.done } }, 0) := by rw [nextW]; simp only; rw [if_neg (by rw [h1]; decide), if_neg (by rw [h2]; decide), if_pos h3]
    rw [e]
    simp only [Bool.and_eq_true, Bool.not_eq_true'] at h3
    rw [h3.1] at h1
    exact nextR_con w i v 2 v.saga.done hi (.inr (.inr ⟨h3.1, by simpa using h1, h3.2, rfl, rfl⟩))
  | false =>
  have hd : (doneAt w v.saga).2.2 = 0 := by
    rw [nextW] at he
    simp only at he
    rw [if_neg (by rw [h1]; decide), if_neg (by rw [h2]; decide), if_neg (by rw [h3]; decide)] at he
    split at he
    · assumption
    · exact he
  have e : (nextW w v).1 = calledW w v.saga := by
    rw [nextW]; simp only; rw [if_neg (by rw [h1]; decide), if_neg (by rw [h2]; decide), if_neg (by rw [h3]; decide), if_pos hd]
  rw [e]
  exact nextC_con w i v hi h.tries h1 h2 h3 (hc h1 h2 h3) hd
theorem written_conW (w : Wd) (i : Nat) (v : Live) (hi : w.lives[i]? = some v) (h : MoveOk w v) (he : (writtenW w v).2.2 = 0) :
    ConG P 66 (mvB w) [.lf (.ptr 0 0), .lf (.ept 2 w.lives.length i 18 0)] nilI (mvB (setLive (writtenW w v).1 i (writtenW w v).2.1)) := by
  cases hp : v.put with
  | true =>
    have e : writtenW w v = ({ w with file := (crashP w.file w.file.tail.size).1 }, ⟨nextS v.saga v.write, 0, w.clock, zRec, false⟩, 0) := by rw [writtenW, if_pos hp]
    rw [e]
    exact writtenS_con w i v hi h.file h.live hp
  | false =>
    have hd : (jappP w.file v.write).2 = 0 := by
      rw [writtenW, if_neg (by rw [hp]; decide)] at he
      split at he
      · assumption
      · exact he
    have e : writtenW w v = ({ w with file := (jappP w.file v.write).1 }, { v with put := true }, 0) := by rw [writtenW, if_neg (by rw [hp]; decide), if_pos hd]
    rw [e]
    exact writtenA_con w i v hi h.file h.live hp hd
abbrev idleI : AV := .lf (.pv (.sc (.iface 116 (.agg #[]))))
/-- What a step that does not fail tells: nil, or that there is none. -/
abbrev stepE (e : Int) : AV := .lf (.pv (.sc (if e = 0 then .nilIface else .iface 116 (.agg #[]))))
theorem step_con (w : Wd) (hl : w.lives.length * 200 ≤ 140737488351232) (h : ∀ v, v ∈ w.lives → dueB w.clock v = true → MoveOk w v) (he : (stepW w).2 = 0 ∨ dueI w = none) :
    ConG P 32 (mvB w) [.lf (.ptr 0 0)] (stepE (stepW w).2) (mvB (stepW w).1) := by
  have hml : (w.lives.map Live.enc).length = w.lives.length := List.length_map ..
  obtain ⟨r, hr⟩ : ∃ r, r = stepW w := ⟨_, rfl⟩
  have hd0 : dueI w = dueGo w.clock w.lives 0 := rfl
  rw [← hr] at he ⊢
  refine ConG.of T_ok Tryz.func32 rfl (by kernel_rfl) (by kernel_rfl) (aw_of T_ok (by kernel_rfl) ?_)
  conv => whnf
  refine ⟨hml, ?_⟩
  conv => whnf
  refine AW.loop (fun k : Nat => k ≤ w.lives.length ∧ dueI w = dueGo w.clock (w.lives.drop k) k) (fun k => [(0, .lf (.ptr 0 0)), (13, Go.Rx.I w.lives.length), (14, Go.Rx.I k)]) (fun _ => mvB w) (fun k => w.lives.length - k) [] ?_ ?_
  · exact ⟨0, ⟨Nat.zero_le _, rfl⟩, ⟨rfl, rfl, rfl, trivial⟩, ⟨[], rfl⟩, rfl, rfl⟩
  rintro k ⟨hk, hpre⟩
  refine aw_of T_ok (by kernel_rfl) ?_
  conv => whnf
  split <;> rename_i hlt <;> conv => whnf
  · have hkl : k < w.lives.length := by have := of_decide_eq_true hlt; omega
    have wk : IntKind.i64.wrap ((k : Int) + 1) = ((k + 1 : Nat) : Int) := wrapI (by omega)
    have hrow : (w.lives.map Live.enc)[k]? = some w.lives[k].enc := by simp [hkl]
    have hi : w.lives[k]? = some w.lives[k] := List.getElem?_eq_getElem hkl
    have hmem : w.lives[k] ∈ w.lives := List.getElem_mem hkl
    rw [due_go hkl] at hpre
    have hsw : dueB w.clock w.lives[k] = true → stepW w = if (moveW w w.lives[k]).2.2 = 0 then ({ (moveW w w.lives[k]).1 with lives := w.lives.set k (moveW w w.lives[k]).2.1 }, 0) else (w, (moveW w w.lives[k]).2.2) := fun hb => by
      rw [stepW, hpre, if_pos hb]
      simp only
      rw [hi]
    have hok := h _ hmem
    generalize w.lives[k] = v at hrow hi hpre hsw hok hmem
    refine ⟨hml, by omega, by omega, ?_⟩
    conv => whnf
    refine ⟨hml, hml, hml, rfl, hml, _, hrow, ?_⟩
    conv => whnf
    refine AW.draw T_ok rfl (seqPl 0 22) (by kernel_rfl) (by kernel_rfl) ?_
    conv => whnf
    refine ⟨hml, hml, hml, rfl, hml, _, hrow, ?_⟩
    conv => whnf
    split <;> rename_i h1 <;> conv => whnf
    · have hb : dueB w.clock v = false := by
        have h1' : (v.saga.status != 0) = true := h1
        have : (v.saga.status == 0) = false := by simpa using h1'
        rw [dueB, this]; rfl
      rw [if_neg (by rw [hb]; decide)] at hpre
      exact ⟨k + 1, ⟨⟨hkl, hpre⟩, by omega⟩, ⟨rfl, rfl, congrArg Go.Rx.I wk, trivial⟩, ⟨[], rfl⟩, rfl, rfl⟩
    · have h1' : (v.saga.status == 0) = true := by have h3 : (v.saga.status != 0) = false := h1; simpa using h3
      split <;> rename_i h2 <;> conv => whnf
      · have hk0 : v.write.kind = 0 := by have h3 : (!(v.write.kind != 0)) = true := h2; simpa using h3
        refine ⟨hml, hml, rfl, hml, _, hrow, ?_⟩
        conv => whnf
        split <;> rename_i h4 <;> conv => whnf
        · have hb : dueB w.clock v = false := by
            have h4' : decide (w.clock < v.due) = true := h4
            rw [dueB, h1', h4', hk0]; rfl
          rw [if_neg (by rw [hb]; decide)] at hpre
          exact ⟨k + 1, ⟨⟨hkl, hpre⟩, by omega⟩, ⟨rfl, rfl, congrArg Go.Rx.I wk, trivial⟩, ⟨[], rfl⟩, rfl, rfl⟩
        · have hb : dueB w.clock v = true := by
            have h4' : decide (w.clock < v.due) = false := h4
            rw [dueB, h1', h4', hk0]; rfl
          rw [if_pos hb] at hpre
          have hmv : moveW w v = nextW w v := by rw [moveW, if_neg (by rw [hk0]; decide)]
          have hs := hsw hb
          rw [hmv] at hs
          have he0 : (nextW w v).2.2 = 0 := by
            rcases he with he | he
            · rw [hr, hs] at he
              split at he
              · assumption
              · exact he
            · rw [he] at hpre; cases hpre
          rw [if_pos he0] at hs
          have c := next_conW w k v hi (hok hb) hk0 he0
          have hlv : setLive (nextW w v).1 k (nextW w v).2.1 = { (nextW w v).1 with lives := w.lives.set k (nextW w v).2.1 } := by rw [setLive, nextW_lives]
          rw [hlv] at c
          rw [hs] at hr
          subst hr
          split <;> rename_i h5 <;> conv => whnf
          · have h5' : (v.write.kind != 0) = true := h5
            rw [hk0] at h5'; cases h5'
          refine ⟨[0, 1, 2, 3], _, _, _, _, _, nodupB_ok rfl, rfl, rfl, wk_refl _, c, ?_⟩
          conv => whnf
          refine ⟨rfl, ?_⟩
          conv => whnf
          exact ⟨[], [0, 1, 2, 3], [nilI], [nilI], rfl, rfl, rfl, wk_refl _, rfl⟩
      · have hk0 : (v.write.kind != 0) = true := by have h3 : (!(v.write.kind != 0)) = false := h2; simpa using h3
        have hb : dueB w.clock v = true := by rw [dueB, h1', hk0]; rfl
        rw [if_pos hb] at hpre
        have hmv : moveW w v = writtenW w v := by rw [moveW, if_pos hk0]
        have hs := hsw hb
        rw [hmv] at hs
        have he0 : (writtenW w v).2.2 = 0 := by
          rcases he with he | he
          · rw [hr, hs] at he
            split at he
            · assumption
            · exact he
          · rw [he] at hpre; cases hpre
        rw [if_pos he0] at hs
        have c := written_conW w k v hi (hok hb) he0
        have hlv : setLive (writtenW w v).1 k (writtenW w v).2.1 = { (writtenW w v).1 with lives := w.lives.set k (writtenW w v).2.1 } := by rw [setLive, writtenW_lives]
        rw [hlv] at c
        rw [hs] at hr
        subst hr
        split <;> rename_i h5 <;> conv => whnf
        · refine ⟨[0, 1, 2, 3], _, _, _, _, _, nodupB_ok rfl, rfl, rfl, wk_refl _, c, ?_⟩
          conv => whnf
          refine ⟨rfl, ?_⟩
          conv => whnf
          exact ⟨[], [0, 1, 2, 3], [nilI], [nilI], rfl, rfl, rfl, wk_refl _, rfl⟩
        · have h5' : (v.write.kind != 0) = false := h5
          rw [hk0] at h5'; cases h5'
  · have hkl : w.lives.length ≤ k := by have := of_decide_eq_false hlt; omega
    rw [due_end hkl] at hpre
    have e : stepW w = (w, 3) := by rw [stepW, hpre]
    rw [e] at hr
    subst hr
    exact ⟨[], [0, 1, 2, 3], [idleI], [idleI], rfl, rfl, rfl, wk_refl _, rfl⟩
end Go.Proofs.YtlkbokedadngfaaGreatDoor.Rx

/- What a step tells: errors.Is over 'idle'; told. -/
set_option linter.unusedVariables false
set_option linter.unusedSimpArgs false
namespace Go.Proofs.YtlkbokedadngfaaGreatDoor.RxH
open Go.RowKit Go.Proofs Go.Extern.Stop Go.Stop Go.Extern
theorem idTypeOf (w : World) : (Extern.ReflectliteType.typeOf #[.iface 116 (.agg #[])]).run Tryz.prog w = .ok (.iface 170 (.agg #[.pointer (some ⟨2, 116, none⟩)])) w := by kernel_rfl
theorem idComparable (w : World) : ((Extern.ReflectliteType.method fun t => do Extern.Rtype.noPackHeld "Comparable" t; (fun a => Value.bool a.comparable) <$> typeInfo t) #[.agg #[.pointer (some ⟨2, 116, none⟩)]]).run Tryz.prog w = .ok (.bool true) w := by kernel_rfl
theorem idMethod (v : Value) (w : World) : (Go.method 366 170 v "Comparable").run Tryz.prog w = .ok (205, v) w := by kernel_rfl
theorem idEql (w : World) : (Go.binOp .eql 89 (.iface 116 (.agg #[])) (.iface 116 (.agg #[]))).run Tryz.prog w = .ok (.bool true) w := by kernel_rfl
set_option maxRecDepth 100000 in
theorem is_idle (w : World) :
    Calls Tryz.prog 63 #[.iface 116 (.agg #[]), .iface 116 (.agg #[])] w fun e w' => e = .returned (.bool true) ∧ w' = w := by
  have hF8 := @run_callFunc_extern Tryz.prog 92 _ Extern.ReflectliteType.typeOf Tryz.func92 (by kernel_rfl) (by kernel_rfl) (by kernel_rfl) (by kernel_rfl)
  have hF9 := @run_callFunc_extern Tryz.prog 205 _ (Extern.ReflectliteType.method fun t => do Extern.Rtype.noPackHeld "Comparable" t; pure (.bool (← typeInfo t).comparable)) Tryz.func205 (by kernel_rfl) (by kernel_rfl) (by kernel_rfl) (by kernel_rfl)
  have tT := idTypeOf
  have cT := idComparable
  have mR := idMethod
  have heq := idEql
  go_enter Tryz.func63, Tryz.ntmps63
  go_wp2
  refine wp_loop_rounds 1 ?_
  rw [rounds_succ]
  go_wp2
  go_ret
  exact ⟨rfl, rfl⟩
end Go.Proofs.YtlkbokedadngfaaGreatDoor.RxH
namespace Go.Proofs.YtlkbokedadngfaaGreatDoor.Rx
open Go.Rx Go.Proofs Go.Proofs.YtlkbokedadngfaaGreatDoor.RxH
theorem is_con : Con P 63 [idleI, idleI] (Bl true) [] :=
  Con.plain (vs := [.iface 116 (.agg #[]), .iface 116 (.agg #[])]) (by kernel_rfl) rfl fun w => (is_idle w).mono fun e w' ⟨h, h2⟩ => ⟨h, h2 ▸ Go.RowKit.Below.refl _ _⟩
/-- Of a step that does not fail: its error as a number. -/
theorem told_nil : Con P 31 [nilI] (Go.Rx.I 0) [] := by
  refine Con.of T_ok Tryz.func31 rfl (by kernel_rfl) (by kernel_rfl) (aw_of T_ok (by kernel_rfl) ?_)
  conv => whnf
  refine ⟨rfl, ?_⟩
  conv => whnf
  exact finI ⟨rfl⟩
theorem told_idle : Con P 31 [idleI] (Go.Rx.I 3) [] := by
  refine Con.of T_ok Tryz.func31 rfl (by kernel_rfl) (by kernel_rfl) (aw_of T_ok (by kernel_rfl) ?_)
  conv => whnf
  refine callS is_con rfl ?_
  conv => whnf
  exact finI ⟨rfl⟩
end Go.Proofs.YtlkbokedadngfaaGreatDoor.Rx

/- A world in memory of the call's own. -/
set_option linter.unusedVariables false
set_option linter.unusedSimpArgs false
namespace Go.Rx
abbrev zWd : Wd := ⟨0, ⟨⟨#[]⟩, ⟨#[]⟩, 0⟩, [], [], [], 0⟩
abbrev zWdV : List Lf := [.pv (pI 0), .pv (pS ⟨#[]⟩), .pv (pS ⟨#[]⟩), .pv (pI 0), .pv (.sc (.slice none 0 0)), .pv (.sc (.slice none 0 0)), .pv (.sc (.slice none 0 0)), .pv (pI 0)]
theorem set_same {α : Type} {l : List α} {k : Nat} {a : α} (h : l[k]? = some a) : l.set k a = l := by
  obtain ⟨h1, h2⟩ := List.getElem?_eq_some_iff.1 h
  rw [← h2]; exact List.set_getElem_self h1
end Go.Rx
namespace Go.Proofs.YtlkbokedadngfaaGreatDoor.Rx
open Go.Rx Go.Proofs Go.Proofs.YtlkbokedadngfaaGreatDoor.RxH
theorem wown_con (w : Wd) (hw : w.Ok) : Con P 20 [encWd w] (.agg (w.own 0)) [.arr 59 3 (w.ledgers.map Ledger.enc), .arr 43 18 (w.lives.map Live.enc), .arr 3 1 (intRows w.outs)] := by
  have hgm : (w.ledgers.map Ledger.enc).length = w.ledgers.length := List.length_map ..
  have hlm : (w.lives.map Live.enc).length = w.lives.length := List.length_map ..
  have hgl := hw.gl
  have hll := hw.ll
  refine ConG.con (ConG.of T_ok Tryz.func20 rfl (by kernel_rfl) (by kernel_rfl) (aw_of T_ok (by kernel_rfl) ?_)) rfl
  conv => whnf
  refine AW.draw T_ok rfl (listPl [0, 1, 3, 4, 6, 7, 2, 9, 5, 8, 10, 11, 12, 13, 14]) (by kernel_rfl) (by kernel_rfl) ?_
  conv => whnf
  refine ⟨_, _, _, wk_refl _, cloneG_con w.ledgers hw.gl, .inr ?_⟩
  conv => whnf
  refine ⟨_, _, _, wk_refl _, cloneL_con w.lives hw.ll, .inr ?_⟩
  conv => whnf
  refine ⟨_, _, _, wk_refl _, cloneI_con w.outs hw.ol, .inr ?_⟩
  conv => whnf
  refine ⟨hgm, ?_⟩
  conv => whnf
  refine AW.loop (fun k : Nat => k ≤ w.ledgers.length) (fun k => [(1, .lf (.ptr 0 0)), (2, .lf (.ptr 1 0)), (19, .lf (.own 2 w.ledgers.length)), (20, Go.Rx.I w.ledgers.length), (21, Go.Rx.I k)])
    (fun _ => [.var (w.own 2), .var zWdV, .arr 59 3 (w.ledgers.map Ledger.enc), .arr 43 18 (w.lives.map Live.enc), .arr 3 1 (intRows w.outs)]) (fun k => w.ledgers.length - k) [] ?_ ?_
  · exact ⟨0, Nat.zero_le _, ⟨rfl, rfl, rfl, rfl, rfl, trivial⟩, ⟨[], rfl⟩, rfl, rfl⟩
  intro k hk
  refine aw_of T_ok (by kernel_rfl) ?_
  conv => whnf
  split <;> rename_i hlt <;> conv => whnf
  · have hkl : k < w.ledgers.length := by have := of_decide_eq_true hlt; omega
    have hrow : (w.ledgers.map Ledger.enc)[k]? = some w.ledgers[k].enc := by simp [hkl]
    have hok := hw.ledgers _ (List.getElem_mem hkl)
    generalize w.ledgers[k] = g at hrow hok
    refine ⟨hgm, by omega, by omega, ?_⟩
    conv => whnf
    refine ⟨rfl, hgm, _, hrow, ?_⟩
    conv => whnf
    refine AW.draw T_ok rfl (seqPl 0 7) (by kernel_rfl) (by kernel_rfl) ?_
    conv => whnf
    refine ⟨_, _, _, wk_refl _, ownL_con g hok, .inr ?_⟩
    conv => whnf
    refine ⟨hgm, by omega, by omega, ?_⟩
    conv => whnf
    have hge : (g.entries.map Entry.enc).length = g.entries.length := List.length_map ..
    have hgk : (intRows g.known).length = g.known.length := List.length_map ..
    refine ⟨hge, hgk, rfl, hgm, _, hrow, by decide, ?_⟩
    conv => whnf
    have hset : (w.ledgers.map Ledger.enc).set k g.enc = w.ledgers.map Ledger.enc := set_same hrow
    refine ⟨k + 1, ⟨hkl, by omega⟩, ⟨rfl, rfl, rfl, rfl, congrArg Go.Rx.I (wrapI (by omega)), trivial⟩, ⟨[?z1, ?z2, ?z3], ?zb⟩, rfl, rfl⟩
    case zb =>
      show [_, _, Blk.arr _ 3 ((w.ledgers.map Ledger.enc).set k g.enc), _, _, _, _, _] = _
      rw [hset]
      rfl
  · refine ⟨hlm, ?_⟩
    conv => whnf
    refine AW.loop (fun k : Nat => k ≤ w.lives.length) (fun k => [(1, .lf (.ptr 0 0)), (2, .lf (.ptr 1 0)), (35, Go.Rx.I w.lives.length), (36, Go.Rx.I k)])
      (fun _ => [.var (w.own 2), .var zWdV, .arr 59 3 (w.ledgers.map Ledger.enc), .arr 43 18 (w.lives.map Live.enc), .arr 3 1 (intRows w.outs)]) (fun k => w.lives.length - k) [] ?_ ?_
    · exact ⟨0, Nat.zero_le _, ⟨rfl, rfl, rfl, rfl, trivial⟩, ⟨[], rfl⟩, rfl, rfl⟩
    intro k hk
    refine aw_of T_ok (by kernel_rfl) ?_
    conv => whnf
    split <;> rename_i hlt <;> conv => whnf
    · have hkl : k < w.lives.length := by have := of_decide_eq_true hlt; omega
      have hrow : (w.lives.map Live.enc)[k]? = some w.lives[k].enc := by simp [hkl]
      have hok := hw.lives _ (List.getElem_mem hkl)
      generalize w.lives[k] = v at hrow hok
      refine AW.draw T_ok rfl (seqPl 0 13) (by kernel_rfl) (by kernel_rfl) ?_
      conv => whnf
      refine ⟨hlm, by omega, by omega, ?_⟩
      conv => whnf
      refine ⟨hlm, rfl, hlm, _, hrow, ?_⟩
      conv => whnf
      refine callU (own_con v.saga hok.saga.steps.len) (fun _ => rfl) ?_
      conv => whnf
      refine ⟨hlm, by omega, by omega, ?_⟩
      conv => whnf
      refine ⟨hlm, rfl, hlm, _, hrow, by decide, ?_⟩
      conv => whnf
      have hset : (w.lives.map Live.enc).set k v.enc = w.lives.map Live.enc := set_same hrow
      refine ⟨k + 1, ⟨hkl, by omega⟩, ⟨rfl, rfl, rfl, congrArg Go.Rx.I (wrapI (by omega)), trivial⟩, ⟨[], ?zc⟩, rfl, rfl⟩
      case zc =>
        show [_, _, _, Blk.arr _ 18 ((w.lives.map Live.enc).set k v.enc), _] = _
        rw [hset]
        rfl
    · refine ⟨[], [2, 3, 4], [.agg (w.own 0)], [.agg (w.own 0)], rfl, rfl, rfl, wk_refl _, rfl⟩
end Go.Proofs.YtlkbokedadngfaaGreatDoor.Rx

/- Steps, as many as there may be. -/
set_option linter.unusedVariables false
set_option linter.unusedSimpArgs false
namespace Go.Rx
/-- A step does not fail. -/
structure StepOk (w : Wd) : Prop where
  ll : w.lives.length * 200 ≤ 140737488351232
  move : ∀ v, v ∈ w.lives → dueB w.clock v = true → MoveOk w v
  ok : (stepW w).2 = 0 ∨ dueI w = none
def GoOk : Nat → Wd → Prop
  | 0, _ => True
  | k + 1, w => StepOk w ∧ ((stepW w).2 = 0 → GoOk k (stepW w).1)
theorem goW_go {k : Nat} {w : Wd} (h : (stepW w).2 = 0) : goW (k + 1) w = ((goW k (stepW w).1).1, (goW k (stepW w).1).2 + 1) := by rw [goW, if_pos h]
theorem goW_end {k : Nat} {w : Wd} (h : dueI w = none) : goW (k + 1) w = (w, 0) := by
  have e : (stepW w).2 = 3 := by rw [stepW, h]
  rw [goW, if_neg (by rw [e]; decide)]
abbrev wdI (p : Wd × Nat) : AV := .tup [.agg p.1.lfs, .lf (.pv (pI p.2))]
theorem finWI {w : Wd} {n : Int} {q : Wd × Nat} (h : Fin (w, n) (q.1, (q.2 : Int))) : ∃ zs, Fa WkA [.agg w.lfs, I n] zs ∧ pack zs = some (wdI q) := by
  have h' := h.out
  simp only [Prod.mk.injEq] at h'
  obtain ⟨h1, h2⟩ := h'
  subst h1 h2
  exact ⟨_, wk_refl _, rfl⟩
end Go.Rx
namespace Go.Proofs.YtlkbokedadngfaaGreatDoor.Rx
open Go.Rx Go.Proofs Go.Proofs.YtlkbokedadngfaaGreatDoor.RxH
theorem step_go (w : Wd) (h : StepOk w) (he : (stepW w).2 = 0) : ConG P 32 (mvB w) [.lf (.ptr 0 0)] nilI (mvB (stepW w).1) := by
  have c := step_con w h.ll h.move h.ok
  rw [he] at c
  exact c
theorem step_end (w : Wd) (h : StepOk w) (he : dueI w = none) : ConG P 32 (mvB w) [.lf (.ptr 0 0)] idleI (mvB w) := by
  have c := step_con w h.ll h.move h.ok
  have e : stepW w = (w, 3) := by rw [stepW, he]
  rw [e] at c
  exact c
theorem go_con (w : Wd) (hw : w.Ok) (n : Nat) (hn : n ≤ 100000) (h : GoOk n w) : Con P 30 [encWd w, Go.Rx.I n] (wdI (goW n w)) [] := by
  obtain ⟨r, hr⟩ : ∃ r, r = goW n w := ⟨_, rfl⟩
  rw [← hr]
  refine Con.of T_ok Tryz.func30 rfl (by kernel_rfl) (by kernel_rfl) (aw_of T_ok (by kernel_rfl) ?_)
  conv => whnf
  refine ⟨_, _, _, wk_refl _, wown_con w hw, .inr ?_⟩
  conv => whnf
  refine AW.loop (fun p : Nat × Wd => p.1 ≤ n ∧ GoOk (n - p.1) p.2 ∧ r.1 = (goW (n - p.1) p.2).1 ∧ r.2 = (goW (n - p.1) p.2).2 + p.1) (fun p => [(4, .lf (.ptr 1 0)), (6, .lf (.ptr 5 0)), (1, Go.Rx.I n), (12, Go.Rx.I n), (13, Go.Rx.I p.1)])
    (fun p => [.var w.lfs, .var zWdV, .arr 59 3 (p.2.ledgers.map Ledger.enc), .arr 43 18 (p.2.lives.map Live.enc), .arr 3 1 (intRows p.2.outs), .var (p.2.own 2)]) (fun p => n - p.1) [] ?_ ?_
  · refine ⟨(0, w), ⟨Nat.zero_le _, h, ?_, ?_⟩, ⟨rfl, rfl, rfl, rfl, rfl, trivial⟩, ⟨[], rfl⟩, rfl, rfl⟩
    · rw [hr]; rfl
    · rw [hr]; rfl
  rintro ⟨k, x⟩ ⟨hk, hok, h1, h2⟩
  simp only at hk hok h1 h2
  have hgm : (x.ledgers.map Ledger.enc).length = x.ledgers.length := List.length_map ..
  have hlm : (x.lives.map Live.enc).length = x.lives.length := List.length_map ..
  have hom : (intRows x.outs).length = x.outs.length := List.length_map ..
  refine aw_of T_ok (by kernel_rfl) ?_
  conv => whnf
  split <;> rename_i hlt <;> conv => whnf
  · have hkl : k < n := by have := of_decide_eq_true hlt; omega
    have e : n - k = (n - (k + 1)) + 1 := by omega
    rw [e] at hok h1 h2
    obtain ⟨hs, hgo⟩ := hok
    rcases hs.ok with he | he
    · have c := step_go x hs he
      have hx := hgo he
      rw [goW_go he] at h1 h2
      refine ⟨[5, 2, 3, 4], _, _, _, _, _, nodupB_ok rfl, rfl, rfl, wk_refl _, c, ?_⟩
      conv => whnf
      refine ⟨rfl, ?_⟩
      conv => whnf
      exact ⟨(k + 1, (stepW x).1), ⟨⟨hkl, hx, h1, by have h2' : r.2 = (goW (n - (k + 1)) (stepW x).1).2 + 1 + k := h2; show r.2 = (goW (n - (k + 1)) (stepW x).1).2 + (k + 1); omega⟩, by show n - (k + 1) < n - k; omega⟩, ⟨rfl, rfl, rfl, rfl, congrArg Go.Rx.I (wrapI (by omega)), trivial⟩, ⟨[], rfl⟩, rfl, rfl⟩
    · have c := step_end x hs he
      rw [goW_end he] at h1 h2
      refine ⟨[5, 2, 3, 4], _, _, _, _, _, nodupB_ok rfl, rfl, rfl, wk_refl _, c, ?_⟩
      conv => whnf
      refine ⟨hgm, ?_⟩
      conv => whnf
      refine ⟨hlm, ?_⟩
      conv => whnf
      refine ⟨hom, ?_⟩
      conv => whnf
      exact finWI ⟨by rw [h1, h2]; simp⟩
  · have hkl : n ≤ k := by have := of_decide_eq_false hlt; omega
    have e : n - k = 0 := by omega
    rw [e] at h1 h2
    refine ⟨hgm, ?_⟩
    conv => whnf
    refine ⟨hlm, ?_⟩
    conv => whnf
    refine ⟨hom, ?_⟩
    conv => whnf
    exact finWI ⟨by rw [h1, h2]; show _ = (x, ((0 + k : Nat) : Int)); rw [show k = n by omega]; simp⟩
end Go.Proofs.YtlkbokedadngfaaGreatDoor.Rx

/- Step, Tick and Idle. -/
set_option linter.unusedVariables false
set_option linter.unusedSimpArgs false
namespace Go.Rx
def stepWd (w : Wd) : Wd × Int := if worldB w then (if (stepW w).2 = 0 then ((stepW w).1, 0) else (zWd, (stepW w).2)) else (zWd, 1)
def tickWd (w : Wd) : Wd × Int := if worldB w then (if 1073741824 ≤ w.clock then (zWd, 9) else ((goW 2000 { w with clock := IntKind.i64.wrap (w.clock + 1) }).1, 0)) else (zWd, 1)
def idleB (w : Wd) : Bool := !(w.lives.any fun v => v.saga.status == 0)
def idleWd (w : Wd) : Bool × Int := if worldB w then (idleB w, 0) else (false, 1)
abbrev wdE (p : Wd × Int) : AV := .tup [.agg p.1.lfs, .lf (.pv (pI p.2))]
theorem finWE {w : Wd} {e : Int} {q : Wd × Int} (h : Fin (w, e) q) : ∃ zs, Fa WkA [.agg w.lfs, I e] zs ∧ pack zs = some (wdE q) := ⟨_, wk_refl _, by rw [← h.out]; rfl⟩
theorem finWZ {e : Int} {q : Wd × Int} (h : Fin (zWd, e) q) : ∃ zs, Fa WkA [.agg zWdV, I e] zs ∧ pack zs = some (wdE q) := by
  rw [← h.out]
  exact ⟨[.agg zWd.lfs, I e], ⟨.inr (.inr ⟨_, _, rfl, rfl, .inl rfl, .inl rfl, .inl rfl, .inl rfl, wkN 3, wkN 18, wkN 1, .inl rfl, trivial⟩), .inl rfl, trivial⟩, rfl⟩
end Go.Rx
namespace Go.Proofs.YtlkbokedadngfaaGreatDoor.Rx
open Go.Rx Go.Proofs Go.Proofs.YtlkbokedadngfaaGreatDoor.RxH
theorem stepWd_con (w : Wd) (hw : w.Ok) (h : worldB w = true → StepOk w) : Con P 13 [encWd w] (wdE (stepWd w)) [] := by
  have cm := worldMay_con w hw
  have co := wown_con w hw
  have hq : stepWd w = if worldB w then (if (stepW w).2 = 0 then ((stepW w).1, 0) else (zWd, (stepW w).2)) else (zWd, 1) := rfl
  obtain ⟨q, he⟩ : ∃ q, q = stepWd w := ⟨_, rfl⟩
  rw [← he] at hq ⊢
  refine Con.of T_ok Tryz.func13 rfl (by kernel_rfl) (by kernel_rfl) (aw_of T_ok (by kernel_rfl) ?_)
  conv => whnf
  refine callS cm rfl ?_
  conv => whnf
  cases hb : worldB w with
  | false =>
    rw [hb] at hq
    conv => whnf
    exact finWZ ⟨hq.symm⟩
  | true =>
    rw [hb] at hq
    have hs := h hb
    conv => whnf
    refine ⟨_, _, _, wk_refl _, co, .inr ?_⟩
    conv => whnf
    rcases hs.ok with h0 | h0
    · have c := step_go w hs h0
      have hq' : q = ((stepW w).1, 0) := hq.trans (by rw [if_pos rfl, if_pos h0])
      generalize (stepW w).1 = x at c hq'
      have hgm : (x.ledgers.map Ledger.enc).length = x.ledgers.length := List.length_map ..
      have hlm : (x.lives.map Live.enc).length = x.lives.length := List.length_map ..
      have hom : (intRows x.outs).length = x.outs.length := List.length_map ..
      refine ⟨[5, 2, 3, 4], _, _, _, _, _, nodupB_ok rfl, rfl, rfl, wk_refl _, c, ?_⟩
      conv => whnf
      refine callS told_nil rfl ?_
      conv => whnf
      refine ⟨hgm, ?_⟩
      conv => whnf
      refine ⟨hlm, ?_⟩
      conv => whnf
      refine ⟨hom, ?_⟩
      conv => whnf
      exact finWE ⟨hq'.symm⟩
    · have c := step_end w hs h0
      have e : stepW w = (w, 3) := by rw [stepW, h0]
      have hq' : q = (zWd, 3) := hq.trans (by rw [if_pos rfl, e]; rfl)
      refine ⟨[5, 2, 3, 4], _, _, _, _, _, nodupB_ok rfl, rfl, rfl, wk_refl _, c, ?_⟩
      conv => whnf
      refine callS told_idle rfl ?_
      conv => whnf
      exact finWZ ⟨hq'.symm⟩
theorem tickWd_con (w : Wd) (hw : w.Ok) (h : worldB w = true → w.clock < 1073741824 → GoOk 2000 { w with clock := IntKind.i64.wrap (w.clock + 1) }) : Con P 12 [encWd w] (wdE (tickWd w)) [] := by
  have cm := worldMay_con w hw
  have hq : tickWd w = if worldB w then (if 1073741824 ≤ w.clock then (zWd, 9) else ((goW 2000 { w with clock := IntKind.i64.wrap (w.clock + 1) }).1, 0)) else (zWd, 1) := rfl
  obtain ⟨q, he⟩ : ∃ q, q = tickWd w := ⟨_, rfl⟩
  rw [← he] at hq ⊢
  refine Con.of T_ok Tryz.func12 rfl (by kernel_rfl) (by kernel_rfl) (aw_of T_ok (by kernel_rfl) ?_)
  conv => whnf
  refine callS cm rfl ?_
  conv => whnf
  cases hb : worldB w with
  | false =>
    rw [hb] at hq
    conv => whnf
    exact finWZ ⟨hq.symm⟩
  | true =>
    rw [hb] at hq
    conv => whnf
    split <;> rename_i h1 <;> conv => whnf
    · have h1' : 1073741824 ≤ w.clock := by have := of_decide_eq_true h1; omega
      exact finWZ ⟨by rw [hq, if_pos rfl, if_pos h1']⟩
    · have h1' : ¬ 1073741824 ≤ w.clock := by have := of_decide_eq_false h1; omega
      have c := go_con { w with clock := IntKind.i64.wrap (w.clock + 1) } ⟨hw.file, hw.gl, hw.ll, hw.ol, hw.ledgers, hw.lives⟩ 2000 (by omega) (h hb (by omega))
      rw [if_pos rfl, if_neg h1'] at hq
      generalize goW 2000 { w with clock := IntKind.i64.wrap (w.clock + 1) } = p at c hq
      refine callU c (fun _ => rfl) ?_
      conv => whnf
      exact finWE ⟨hq.symm⟩
theorem idleWd_con (w : Wd) (hw : w.Ok) : Con P 14 [encWd w] (.tup [.lf (.pv (pB (idleWd w).1)), .lf (.pv (pI (idleWd w).2))]) [] := by
  have cm := worldMay_con w hw
  have hq : idleWd w = if worldB w then (!(w.lives.any fun v => v.saga.status == 0), 0) else (false, 1) := rfl
  have ca := anyLv_con 34 (fun v => v.saga.status == 0) w.lives hw.ll (fun v _ => idle1_con v)
  generalize (w.lives.any fun v => v.saga.status == 0) = b at hq ca
  obtain ⟨q, he⟩ : ∃ q, q = idleWd w := ⟨_, rfl⟩
  rw [← he] at hq ⊢
  refine Con.of T_ok Tryz.func14 rfl (by kernel_rfl) (by kernel_rfl) (aw_of T_ok (by kernel_rfl) ?_)
  conv => whnf
  refine callS cm rfl ?_
  conv => whnf
  cases hb : worldB w with
  | false =>
    rw [hb] at hq
    conv => whnf
    exact ⟨[Bl false, Go.Rx.I 1], wk_refl _, by rw [hq]; rfl⟩
  | true =>
    rw [hb] at hq
    conv => whnf
    refine callS ca rfl ?_
    conv => whnf
    exact ⟨[Bl (!b), Go.Rx.I 0], wk_refl _, by rw [hq]; rfl⟩
end Go.Proofs.YtlkbokedadngfaaGreatDoor.Rx

/- Room for a saga; whether one may begin. -/
set_option linter.unusedVariables false
set_option linter.unusedSimpArgs false
namespace Go.Rx
def beginsB (r : Rec) : Bool := r.kind == 1 && recB r
def roomGo : List Live → Int → Int
  | [], n => n
  | v :: l, n => roomGo l (IntKind.i64.wrap (n + roomI v.saga))
def needW (w : Wd) (r : Rec) : Int := roomGo w.lives (IntKind.i64.wrap (((frmR r).1.size : Int) + roomI (beginS r).1))
def roomW (w : Wd) (r : Rec) : Bool × Int := if (frmR r).2 = 0 then (decide (needW w r ≤ roomF w.file), 0) else (false, (frmR r).2)
abbrev boolI (p : Bool × Int) : AV := .tup [.lf (.pv (pB p.1)), .lf (.pv (pI p.2))]
theorem finBI {b : Bool} {e : Int} {q : Bool × Int} (h : Fin (b, e) q) : ∃ zs, Fa WkA [Bl b, I e] zs ∧ pack zs = some (boolI q) := ⟨_, wk_refl _, by rw [← h.out]; rfl⟩
theorem room_go {l : List Live} {k : Nat} {n : Int} (h : k < l.length) : roomGo (l.drop k) n = roomGo (l.drop (k + 1)) (IntKind.i64.wrap (n + roomI l[k].saga)) := by rw [List.drop_eq_getElem_cons h, roomGo]
theorem room_end {l : List Live} {k : Nat} {n : Int} (h : l.length ≤ k) : roomGo (l.drop k) n = n := by rw [List.drop_of_length_le h, roomGo]
def readyW (w : Wd) (r : Rec) : FileS × Int :=
  if !(worldB w) || (!(beginsB r) || (r.id != IntKind.i64.wrap ((w.lives.length : Int) + 1) || decide (0 ≤ keyI (sagasL w.lives) r.key))) then (zF, 1)
  else if (roomW w r).2 = 0 then (if (roomW w r).1 then jappP w.file r else (zF, 7)) else (zF, (roomW w r).2)
theorem worldB_file {w : Wd} (h : worldB w = true) : fileB w.file = true := by
  unfold worldB at h
  split at h
  · cases h
  split at h
  · cases h
  · rename_i h2
    cases hf : fileB w.file with
    | true => rfl
    | false => rw [hf] at h2; simp at h2
end Go.Rx
namespace Go.Proofs.YtlkbokedadngfaaGreatDoor.Rx
open Go.Rx Go.Proofs Go.Proofs.YtlkbokedadngfaaGreatDoor.RxH
theorem begins_con (r : Rec) (hr : r.Ok) : Con P 44 [encRec r] (Bl (beginsB r)) [] := by
  refine Con.of T_ok Tryz.func44 rfl (by kernel_rfl) (by kernel_rfl) (aw_of T_ok (by kernel_rfl) ?_)
  conv => whnf
  split <;> rename_i h1 <;> conv => whnf
  · refine callS (recMay_con r hr) rfl ?_
    conv => whnf
    exact finB ⟨by rw [beginsB, show (r.kind == 1) = true from h1]; rfl⟩
  · exact finB ⟨by rw [beginsB, show (r.kind == 1) = false from h1]; rfl⟩
theorem roomIn_con (w : Wd) (hw : w.Ok) (r : Rec) (hr : r.Ok) (hb : worldB w = true) (hB : beginsB r = true) : Con P 46 [encWd w, encRec r] (boolI (roomW w r)) [] := by
  have hB' : recB r = true := by rw [beginsB, Bool.and_eq_true] at hB; exact hB.2
  have cf := rframe_con r (small_of hB')
  have cb := beginTop_con r hr
  have cr := room_con (beginS r).1
  have hq : roomW w r = if (frmR r).2 = 0 then (decide (roomGo w.lives (IntKind.i64.wrap (((frmR r).1.size : Int) + roomI (beginS r).1)) ≤ roomF w.file), 0) else (false, (frmR r).2) := rfl
  have cfr := froom_con w.file hw.file (worldB_file hb)
  have hll := hw.ll
  generalize frmR r = x at cf hq
  generalize beginS r = y at cb cr hq
  obtain ⟨b, e⟩ := x
  obtain ⟨s0, e0⟩ := y
  simp only at hq cr
  have hlm : (w.lives.map Live.enc).length = w.lives.length := List.length_map ..
  obtain ⟨q, he⟩ : ∃ q, q = roomW w r := ⟨_, rfl⟩
  rw [← he] at hq ⊢
  refine Con.of T_ok Tryz.func46 rfl (by kernel_rfl) (by kernel_rfl) (aw_of T_ok (by kernel_rfl) ?_)
  conv => whnf
  refine callU cf (fun _ => rfl) ?_
  conv => whnf
  split <;> rename_i h1 <;> conv => whnf
  · have h1' : ¬ e = 0 := by have h2 : (e != 0) = true := h1; simpa using h2
    exact finBI ⟨by rw [hq, if_neg h1']⟩
  have h1' : e = 0 := by have h2 : (e != 0) = false := h1; simpa using h2
  rw [if_pos h1'] at hq
  refine callU cb (fun _ => rfl) ?_
  conv => whnf
  refine callS cr rfl ?_
  conv => whnf
  obtain ⟨m, hm⟩ : ∃ m, m = roomGo w.lives (IntKind.i64.wrap ((b.size : Int) + roomI s0)) := ⟨_, rfl⟩
  rw [← hm] at hq
  refine AW.loop (fun p : Nat × Int => p.1 ≤ w.lives.length ∧ roomGo (w.lives.drop p.1) p.2 = m) (fun p => [(2, .lf (.ptr 0 0)), (10, Go.Rx.I p.2), (32, .lf (.pv (encLives w.lives))), (33, Go.Rx.I w.lives.length), (34, Go.Rx.I p.1)]) (fun _ => [.var w.lfs]) (fun p => w.lives.length - p.1) [] ?_ ?_
  · exact ⟨(0, _), ⟨Nat.zero_le _, hm.symm⟩, ⟨rfl, rfl, rfl, congrArg (fun n : Nat => Go.Rx.I (n : Int)) (List.length_map ..), rfl, trivial⟩, ⟨[_, _], rfl⟩, rfl, rfl⟩
  rintro ⟨k, n⟩ ⟨hk, hpre⟩
  simp only at hk hpre
  refine aw_of T_ok (by kernel_rfl) ?_
  conv => whnf
  split <;> rename_i hlt <;> conv => whnf
  · have hkl : k < w.lives.length := by have := of_decide_eq_true hlt; omega
    have hrow : (w.lives.map Live.enc)[k]? = some w.lives[k].enc := by simp [hkl]
    rw [room_go hkl] at hpre
    generalize w.lives[k] = v at hrow hpre
    refine ⟨by omega, _, hrow, ?_⟩
    conv => whnf
    refine callS (room_con v.saga) rfl ?_
    conv => whnf
    exact ⟨(k + 1, _), ⟨⟨hkl, hpre⟩, by show w.lives.length - (k + 1) < w.lives.length - k; omega⟩, ⟨rfl, rfl, rfl, rfl, congrArg Go.Rx.I (wrapI (by omega)), trivial⟩, ⟨[_], rfl⟩, rfl, rfl⟩
  · have hkl : w.lives.length ≤ k := by have := of_decide_eq_false hlt; omega
    rw [room_end hkl] at hpre
    refine callS cfr rfl ?_
    conv => whnf
    exact finBI ⟨by rw [hq, ← hpre]⟩
theorem ready_con (w : Wd) (hw : w.Ok) (r : Rec) (hr : r.Ok) : Con P 19 [encWd w, encRec r] (fileE (readyW w r)) [] := by
  have cm := worldMay_con w hw
  have cb := begins_con r hr
  have cs := sagas_con w.lives hw.ll
  have hsm : ((sagasL w.lives).map Saga.enc).length = (sagasL w.lives).length := List.length_map ..
  have hlm : (w.lives.map Live.enc).length = w.lives.length := List.length_map ..
  have ck := keyed_con (sagasL w.lives) r.key (by rw [sagasL, List.length_map]; have := hw.ll; omega)
  have cj := jappend_con w.file hw.file r hr
  have ci := roomIn_con w hw r hr
  have hq : readyW w r = if !(worldB w) || (!(beginsB r) || (r.id != IntKind.i64.wrap ((w.lives.length : Int) + 1) || decide (0 ≤ keyI (sagasL w.lives) r.key))) then (zF, 1)
    else if (roomW w r).2 = 0 then (if (roomW w r).1 then jappP w.file r else (zF, 7)) else (zF, (roomW w r).2) := rfl
  obtain ⟨q, he⟩ : ∃ q, q = readyW w r := ⟨_, rfl⟩
  rw [← he] at hq ⊢
  refine Con.of T_ok Tryz.func19 rfl (by kernel_rfl) (by kernel_rfl) (aw_of T_ok (by kernel_rfl) ?_)
  conv => whnf
  refine AW.draw T_ok rfl (listPl [0, 1, 2, 3, 4, 5, 6, 7, 8, 9, 10, 11, 12, 13, 14, 15, 16, 17, 18, 19, 21, 22, 20, 23, 24, 25]) (by kernel_rfl) (by kernel_rfl) ?_
  conv => whnf
  refine callS cm rfl ?_
  conv => whnf
  cases h1 : worldB w with
  | false =>
    rw [h1] at hq
    conv => whnf
    exact finFE ⟨hq.symm⟩
  | true =>
  rw [h1] at hq
  conv => whnf
  refine callS cb rfl ?_
  conv => whnf
  cases h2 : beginsB r with
  | false =>
    rw [h2] at hq
    conv => whnf
    exact finFE ⟨hq.symm⟩
  | true =>
  rw [h2] at hq
  have ci' := ci h1 h2
  generalize roomW w r = x at ci' hq
  generalize jappP w.file r = y at cj hq
  conv => whnf
  split <;> rename_i h3 <;> conv => whnf
  · have h3' : (r.id != IntKind.i64.wrap ((w.lives.length : Int) + 1)) = true := by rw [← hlm]; exact h3
    exact finFE ⟨by rw [hq, h3']; rfl⟩
  have h3' : (r.id != IntKind.i64.wrap ((w.lives.length : Int) + 1)) = false := by rw [← hlm]; exact h3
  rw [h3'] at hq
  refine ⟨_, _, _, wk_refl _, cs, .inr ?_⟩
  conv => whnf
  refine ⟨hsm, ?_⟩
  conv => whnf
  refine callS ck rfl ?_
  conv => whnf
  generalize keyI (sagasL w.lives) r.key = kk at hq
  split <;> rename_i h4 <;> conv => whnf
  · have h4' : decide (0 ≤ kk) = true := h4
    exact finFE ⟨by rw [hq, h4']; rfl⟩
  have h4' : decide (0 ≤ kk) = false := h4
  rw [h4', if_neg (by decide)] at hq
  refine callU ci' (fun _ => rfl) ?_
  obtain ⟨ok, e⟩ := x
  simp only at hq
  conv => whnf
  split <;> rename_i h5 <;> conv => whnf
  · have h5' : ¬ e = 0 := by have h6 : (e != 0) = true := h5; simpa using h6
    exact finFE ⟨by rw [hq, if_neg h5']; rfl⟩
  have h5' : e = 0 := by have h6 : (e != 0) = false := h5; simpa using h6
  rw [if_pos h5'] at hq
  cases ok with
  | false =>
    conv => whnf
    exact finFE ⟨by rw [hq]; rfl⟩
  | true =>
    conv => whnf
    refine callU cj (fun _ => rfl) ?_
    conv => whnf
    exact finFE ⟨by rw [hq]; rfl⟩
end Go.Proofs.YtlkbokedadngfaaGreatDoor.Rx

/- A saga begins in a world; a world without sagas. -/
set_option linter.unusedVariables false
set_option linter.unusedSimpArgs false
namespace Go.Rx
def beginWd (w : Wd) (r : Rec) : Wd × Int :=
  if (readyW w r).2 = 0 then ({ w with file := (crashP (readyW w r).1 (readyW w r).1.tail.size).1, lives := w.lives ++ [⟨(beginS r).1, 0, w.clock, zRec, false⟩] }, 0) else (zWd, (readyW w r).2)
def newL : List Ledger := [⟨1, [], []⟩, ⟨2, [], []⟩, ⟨3, [], []⟩, ⟨4, [], []⟩]
def newWd (size : Int) (outs : List Int) : Wd × Int :=
  if (newF size).2 = 0 then (if worldB ⟨0, (newF size).1, newL, [], outs, 0⟩ then (⟨0, (newF size).1, newL, [], outs, 0⟩, 0) else (zWd, 1)) else (zWd, (newF size).2)
theorem jappP_ok {f : FileS} {r : Rec} (h : (jappP f r).2 = 0) : (jappP f r).1.Ok := by
  unfold jappP at h ⊢
  split at h
  · rename_i hb
    rw [if_pos hb]
    split at h
    · rename_i h2
      rw [if_pos h2]
      unfold fappP at h ⊢
      rw [if_pos hb] at h ⊢
      split at h
      · cases h
      · rename_i h3
        rw [if_neg h3]
        have h4 := fileB_iff.1 hb
        unfold roomF at h3
        refine ⟨?_, ?_⟩
        · show f.safe.size ≤ _; omega
        · show (f.tail ++ (bytesR r).1).size ≤ _; rw [ByteArray.size_append]; omega
    · rename_i h2; exact absurd h h2
  · cases h
theorem readyW_ok {w : Wd} {r : Rec} (h : (readyW w r).2 = 0) : (readyW w r).1.Ok := by
  unfold readyW at h ⊢
  split at h
  · cases h
  rename_i h1
  rw [if_neg h1]
  split at h
  · rename_i h2
    rw [if_pos h2]
    split at h
    · rename_i h3
      rw [if_pos h3]
      exact jappP_ok h
    · cases h
  · rename_i h2; exact absurd h h2
abbrev Live.encZ (s : Saga) (c : Int) : List PV := [pI s.id, pS s.key, pS s.body, encSteps s.steps, pI s.done, pB s.out, pB s.back, pI s.left, pI s.status, pI 0, pI c, pI 0, pI 0, pI 0, pS ⟨#[]⟩, pS ⟨#[]⟩, .sc (.slice none 0 0), pB false]
theorem encZ_wk (s : Saga) (c : Int) : Fa WkP (Live.encZ s c) (Live.enc ⟨s, 0, c, zRec, false⟩) :=
  ⟨wkP_refl _, wkP_refl _, wkP_refl _, wkP_refl _, wkP_refl _, wkP_refl _, wkP_refl _, wkP_refl _, wkP_refl _, wkP_refl _, wkP_refl _, wkP_refl _, wkP_refl _, wkP_refl _, wkP_refl _, wkP_refl _, wkP_nil 6, wkP_refl _, trivial⟩
theorem finWB {c t : Int} {f : FileS} {g : List Ledger} {l : List Live} {o : List Int} {s : Saga} {q : Wd × Int} (h : Fin (⟨c, f, g, l ++ [⟨s, 0, c, zRec, false⟩], o, t⟩, 0) q) :
    ∃ zs, Fa WkA [.agg [.pv (pI c), .pv (pS f.safe), .pv (pS f.tail), .pv (pI f.cap), .pv (encLedgers g), .pv (.sl 18 (l.map Live.enc ++ [Live.encZ s c])), .pv (encInts o), .pv (pI t)], I 0] zs ∧ pack zs = some (wdE q) := by
  rw [← h.out]
  refine ⟨[.agg (Wd.lfs ⟨c, f, g, l ++ [⟨s, 0, c, zRec, false⟩], o, t⟩), I 0], ⟨.inr (.inr ⟨_, _, rfl, rfl, .inl rfl, .inl rfl, .inl rfl, .inl rfl, .inl rfl, ?_, .inl rfl, .inl rfl, trivial⟩), .inl rfl, trivial⟩, rfl⟩
  refine .inr ⟨_, _, rfl, rfl, wkPR ?_⟩
  rw [List.map_append]
  exact (fa_reflX (fun _ => fa_reflX wkP_refl _) _).append ⟨encZ_wk s c, trivial⟩
end Go.Rx
namespace Go.Proofs.YtlkbokedadngfaaGreatDoor.Rx
open Go.Rx Go.Proofs Go.Proofs.YtlkbokedadngfaaGreatDoor.RxH
set_option maxHeartbeats 4000000 in
theorem beginWd_con (w : Wd) (hw : w.Ok) (r : Rec) (hr : r.Ok) : Con P 9 [encWd w, encRec r] (wdE (beginWd w r)) [] := by
  have cr := ready_con w hw r hr
  have co := wown_con w hw
  have cb := beginTop_con r hr
  have hok := @readyW_ok w r
  have hq : beginWd w r = if (readyW w r).2 = 0 then ({ w with file := (crashP (readyW w r).1 (readyW w r).1.tail.size).1, lives := w.lives ++ [⟨(beginS r).1, 0, w.clock, zRec, false⟩] }, 0) else (zWd, (readyW w r).2) := rfl
  generalize beginS r = y at cb hq
  generalize readyW w r = x at cr hok hq
  obtain ⟨f, e⟩ := x
  obtain ⟨s0, e0⟩ := y
  simp only at hok hq
  have hgm : (w.ledgers.map Ledger.enc).length = w.ledgers.length := List.length_map ..
  have hlm : (w.lives.map Live.enc).length = w.lives.length := List.length_map ..
  have hom : (intRows w.outs).length = w.outs.length := List.length_map ..
  have hll := hw.ll
  obtain ⟨q, he⟩ : ∃ q, q = beginWd w r := ⟨_, rfl⟩
  rw [← he] at hq ⊢
  refine Con.of T_ok Tryz.func9 rfl (by kernel_rfl) (by kernel_rfl) (aw_of T_ok (by kernel_rfl) ?_)
  conv => whnf
  refine callU cr (fun _ => rfl) ?_
  conv => whnf
  split <;> rename_i h1 <;> conv => whnf
  · have h1' : ¬ e = 0 := by have h2 : (e != 0) = true := h1; simpa using h2
    exact finWZ ⟨by rw [hq, if_neg h1']⟩
  have h1' : e = 0 := by have h2 : (e != 0) = false := h1; simpa using h2
  rw [if_pos h1'] at hq
  have cs := fsync_con f (hok h1')
  generalize crashP f f.tail.size = z at cs hq
  obtain ⟨f2, e2⟩ := z
  refine ⟨_, _, _, wk_refl _, co, .inr ?_⟩
  conv => whnf
  refine callU cs (fun _ => rfl) ?_
  conv => whnf
  refine callU cb (fun _ => rfl) ?_
  conv => whnf
  refine ⟨rfl, _, .inl rfl, ?_⟩
  conv => whnf
  refine ⟨hlm, by show (w.lives.length + 1) * 200 ≤ _; omega, ?_⟩
  conv => whnf
  refine ⟨hgm, ?_⟩
  conv => whnf
  refine ⟨by rw [List.length_append, hlm], ?_⟩
  conv => whnf
  refine ⟨hom, ?_⟩
  conv => whnf
  exact finWB ⟨hq.symm⟩
end Go.Proofs.YtlkbokedadngfaaGreatDoor.Rx

/- A world without sagas. -/
set_option linter.unusedVariables false
set_option linter.unusedSimpArgs false
namespace Go.Rx
theorem finWN {f : FileS} {o : List Int} {q : Wd × Int} (h : Fin (⟨0, f, newL, [], o, 0⟩, 0) q) :
    ∃ zs, Fa WkA [.agg [.pv (pI 0), .pv (pS f.safe), .pv (pS f.tail), .pv (pI f.cap), .pv (encLedgers newL), .pv (.sc (.slice none 0 0)), .pv (encInts o), .pv (pI 0)], I 0] zs ∧ pack zs = some (wdE q) := by
  rw [← h.out]
  exact ⟨[.agg (Wd.lfs ⟨0, f, newL, [], o, 0⟩), I 0], ⟨.inr (.inr ⟨_, _, rfl, rfl, .inl rfl, .inl rfl, .inl rfl, .inl rfl, .inl rfl, wkN 18, .inl rfl, .inl rfl, trivial⟩), .inl rfl, trivial⟩, rfl⟩
end Go.Rx
namespace Go.Proofs.YtlkbokedadngfaaGreatDoor.Rx
open Go.Rx Go.Proofs Go.Proofs.YtlkbokedadngfaaGreatDoor.RxH
theorem new1_con (k : Nat) (hk : k < 4) : Con P 17 [Go.Rx.I (IntKind.i64.wrap ((k : Int) + 1))] (ledgE (⟨((k + 1 : Nat) : Int), [], []⟩, 0)) [] := by
  have c := new_con (IntKind.i64.wrap ((k : Int) + 1))
  have e : IntKind.i64.wrap ((k : Int) + 1) = ((k + 1 : Nat) : Int) := wrapI (by omega)
  rw [e] at c ⊢
  have e2 : newP ((k + 1 : Nat) : Int) = (⟨((k + 1 : Nat) : Int), [], []⟩, 0) := by
    unfold newP
    rw [if_pos (by unfold svB; simp; omega)]
  rw [e2] at c
  exact c
theorem newL_take (k : Nat) (hk : k < 4) : newL.take (k + 1) = newL.take k ++ [⟨((k + 1 : Nat) : Int), [], []⟩] := by
  match k, hk with
  | 0, _ => rfl
  | 1, _ => rfl
  | 2, _ => rfl
  | 3, _ => rfl
set_option maxHeartbeats 4000000 in
theorem newWd_con (size : Int) (outs : List Int) (ho : outs.length * 8 ≤ 140737488351232) : Con P 8 [Go.Rx.I size, .lf (.pv (encInts outs))] (wdE (newWd size outs)) [] := by
  have cf := fnew_con size
  have cc := cloneI_con outs ho
  have hq : newWd size outs = if (newF size).2 = 0 then (if worldB ⟨0, (newF size).1, newL, [], outs, 0⟩ then (⟨0, (newF size).1, newL, [], outs, 0⟩, 0) else (zWd, 1)) else (zWd, (newF size).2) := rfl
  have hfo : (newF size).1.Ok := by
    unfold newF
    split
    · exact ⟨Nat.zero_le _, Nat.zero_le _⟩
    · exact ⟨Nat.zero_le _, Nat.zero_le _⟩
  generalize newF size = x at cf hq hfo
  obtain ⟨f, e⟩ := x
  simp only at hq hfo
  have cm := worldMay_con ⟨0, f, newL, [], outs, 0⟩ ⟨hfo, by show 4 * 56 ≤ _; decide, by show 0 * 200 ≤ _; decide, ho, fun g hg => by
    have hz : (⟨1, [], []⟩ : Ledger).Ok ∧ (⟨2, [], []⟩ : Ledger).Ok ∧ (⟨3, [], []⟩ : Ledger).Ok ∧ (⟨4, [], []⟩ : Ledger).Ok := by
      refine ⟨?_, ?_, ?_, ?_⟩ <;> exact ⟨by decide, by decide, fun x hx => by cases hx⟩
    have hg' : g ∈ [(⟨1, [], []⟩ : Ledger), ⟨2, [], []⟩, ⟨3, [], []⟩, ⟨4, [], []⟩] := hg
    simp only [List.mem_cons, List.not_mem_nil, or_false] at hg'
    rcases hg' with h | h | h | h
    · rw [h]; exact hz.1
    · rw [h]; exact hz.2.1
    · rw [h]; exact hz.2.2.1
    · rw [h]; exact hz.2.2.2, fun v hv => by cases hv⟩
  have hom : (intRows outs).length = outs.length := List.length_map ..
  obtain ⟨q, he⟩ : ∃ q, q = newWd size outs := ⟨_, rfl⟩
  rw [← he] at hq ⊢
  generalize worldB ⟨0, f, newL, [], outs, 0⟩ = wb at cm hq
  refine Con.of T_ok Tryz.func8 rfl (by kernel_rfl) (by kernel_rfl) (aw_ofC T_ok 2004 (by kernel_rfl) ?_)
  conv => whnf
  refine callU cf (fun _ => rfl) ?_
  conv => whnf
  split <;> rename_i h1 <;> conv => whnf
  · have h1' : ¬ e = 0 := by have h2 : (e != 0) = true := h1; simpa using h2
    exact finWZ ⟨by rw [hq, if_neg h1']⟩
  have h1' : e = 0 := by have h2 : (e != 0) = false := h1; simpa using h2
  rw [if_pos h1'] at hq
  refine AW.cutS (fun _ : Unit => True) (fun _ => [(4, .lf (.ptr 0 0)), (8, .lf (.ptr 1 0))])
    (fun _ => [.var zWdV, .var [.pv (pI 0), .pv (pS f.safe), .pv (pS f.tail), .pv (pI f.cap), .pv (.sc (.slice none 0 0)), .pv (.sc (.slice none 0 0)), .own 2 outs.length, .pv (pI 0)], .arr 3 1 (intRows outs)]) (aw_of T_ok (by kernel_rfl) ?_) ?_
  · conv => whnf
    refine AW.draw T_ok rfl (.one 0 (.one 1 (.two 2 (listPl [3, 4, 5]) 4 (listPl [2, 3, 5])))) (by kernel_rfl) (by kernel_rfl) ?_
    conv => whnf
    refine ⟨?_, ?_⟩ <;> conv => whnf
    · refine ⟨_, _, _, wk_refl _, cc, .inr ?_⟩
      conv => whnf
      refine ⟨[0, 3, 2], [(4, .lf (.ptr 0 0)), (8, .lf (.ptr 3 0))], ⟨rfl, rfl, trivial⟩, rfl, _, _, rfl, rfl, [], ?_⟩
      exact ⟨(), trivial, ⟨rfl, rfl, trivial⟩, ⟨[], rfl⟩, rfl, rfl⟩
    · refine ⟨_, _, _, wk_refl _, cc, .inr ?_⟩
      conv => whnf
      refine ⟨[0, 2, 3], [(4, .lf (.ptr 0 0)), (8, .lf (.ptr 2 0))], ⟨rfl, rfl, trivial⟩, rfl, _, _, rfl, rfl, [], ?_⟩
      exact ⟨(), trivial, ⟨rfl, rfl, trivial⟩, ⟨[], rfl⟩, rfl, rfl⟩
  rintro _ _
  refine aw_of T_ok (by kernel_rfl) ?_
  conv => whnf
  refine AW.loop (fun k : Nat => k ≤ 4) (fun k => [(4, .lf (.ptr 0 0)), (8, .lf (.ptr 1 0)), (25, Go.Rx.I k)])
    (fun k => [.var zWdV, .var [.pv (pI 0), .pv (pS f.safe), .pv (pS f.tail), .pv (pI f.cap), .own 3 (newL.take k).length, .pv (.sc (.slice none 0 0)), .own 2 outs.length, .pv (pI 0)], .arr 3 1 (intRows outs), .arr 59 3 ((newL.take k).map Ledger.enc)]) (fun k => 4 - k) [.cell 1 4 59 3] ?_ ?_
  · exact ⟨rfl, 0, Nat.zero_le _, ⟨rfl, rfl, rfl, trivial⟩, ⟨[], rfl⟩, rfl, rfl⟩
  intro k hk
  refine aw_of T_ok (by kernel_rfl) ?_
  conv => whnf
  split <;> rename_i hlt <;> conv => whnf
  · have hkl : k < 4 := by have := of_decide_eq_true hlt; omega
    refine callU (new1_con k hkl) (fun _ => rfl) ?_
    conv => whnf
    refine ⟨rfl, _, .inl rfl, ?_⟩
    conv => whnf
    have htl : (newL.take k).length ≤ 4 := by rw [List.length_take]; show min k 4 ≤ 4; omega
    refine ⟨List.length_map .., by show ((newL.take k).length + 1) * 56 ≤ _; omega, ?_⟩
    conv => whnf
    refine ⟨k + 1, ⟨hkl, by omega⟩, ⟨rfl, rfl, congrArg Go.Rx.I (wrapI (by omega)), trivial⟩, ⟨[?z1, ?z2], ?zb⟩, rfl, rfl⟩
    case zb =>
      show _ = [_, Blk.var [_, _, _, _, .own 3 (newL.take (k + 1)).length, _, _, _], _, Blk.arr _ 3 ((newL.take (k + 1)).map Ledger.enc)] ++ [_, _]
      rw [newL_take k hkl, List.length_append, List.map_append]
      rfl
  · have hkl : k = 4 := by have := of_decide_eq_false hlt; omega
    subst hkl
    refine ⟨rfl, ?_⟩
    conv => whnf
    refine ⟨hom, ?_⟩
    conv => whnf
    refine callW cm ⟨.inr (.inr ⟨_, _, rfl, rfl, .inl rfl, .inl rfl, .inl rfl, .inl rfl, .inl rfl, wkN 18, .inl rfl, .inl rfl, trivial⟩), trivial⟩ rfl ?_
    conv => whnf
    cases wb with
    | false =>
      conv => whnf
      exact finWZ ⟨by rw [hq]; rfl⟩
    | true =>
      conv => whnf
      refine ⟨rfl, ?_⟩
      conv => whnf
      refine ⟨hom, ?_⟩
      conv => whnf
      exact finWN ⟨by rw [hq]; rfl⟩
end Go.Proofs.YtlkbokedadngfaaGreatDoor.Rx

/- Journals that are cut off, or rotten: plain words. -/
set_option linter.unusedVariables false
set_option linter.unusedSimpArgs false
namespace Go.Rx
structure FAct where
  kind : Int
  n : Int
  s : ByteArray
abbrev FAct.enc (a : FAct) : List PV := [pI a.kind, pI a.n, pS a.s]
structure Ask13 (R : List Rec) (S : List ByteArray) (F : FileS) (A : List FAct) : Prop where
  a11 : Ask11 R S
  file : F.Ok
  len : A.length * 32 ≤ 140737488351232
  each : ∀ a ∈ A, okS a.s
abbrev encFActs (A : List FAct) : PV := .sl 3 (A.map FAct.enc)
abbrev encAsk13 (R : List Rec) (S : List ByteArray) (N : List Int) (F : FileS) (n : Int) (A : List FAct) : AV := .agg [.pv (encRecs R), .pv (encStrs S), .pv (encInts N), .pv (pS F.safe), .pv (pS F.tail), .pv (pI F.cap), .pv (pI n), .pv (encFActs A)]
abbrev ask13V (R : List Rec) (S : List ByteArray) (N : List Int) (F : FileS) (n : Int) (A : List FAct) : Blk := .var [.pv (encRecs R), .pv (encStrs S), .pv (encInts N), .pv (pS F.safe), .pv (pS F.tail), .pv (pI F.cap), .pv (pI n), .pv (encFActs A)]
def heavy12G : List FAct → Int → Int
  | [], n => n
  | a :: l, n => if n < 1048576 then heavy12G l (n + a.s.size) else n
theorem heavy12_ge : ∀ (l : List FAct) (n : Int), n ≤ heavy12G l n
  | [], n => Int.le_refl _
  | a :: l, n => by
    rw [heavy12G]; split
    · have := heavy12_ge l (n + a.s.size); omega
    · exact Int.le_refl _
def heavy12N (F : FileS) (A : List FAct) : Int := heavy12G A ((F.safe.size : Int) + F.tail.size + A.length)
/-- Where the records of bytes end. -/
def endsL (A : List Rec) : List Int := (List.range A.length).map fun k => ((catR (A.take (k + 1))).size : Int)
theorem ends_len (A : List Rec) : (endsL A).length = A.length := by simp [endsL]
theorem ends_snoc (A : List Rec) (r : Rec) : endsL (A ++ [r]) = endsL A ++ [((catR (A ++ [r])).size : Int)] := by
  rw [endsL, endsL, List.length_append, List.length_singleton, List.range_succ, List.map_append]
  congr 1
  · refine List.map_congr_left fun k hk => ?_
    have := List.mem_range.1 hk
    rw [List.take_append_of_le_length (by omega)]
  · show [((catR ((A ++ [r]).take (A.length + 1))).size : Int)] = _
    rw [List.take_of_length_le (by rw [List.length_append, List.length_singleton]; exact Nat.le_refl _)]
/-- How many ends there are among the first that are not behind a place: what the loop counts. -/
theorem whole_step : ∀ {A : List Rec} {n k : Nat}, (∀ r ∈ A, GoodR r) → k < A.length → ((catR (A.take (k + 1))).size ≤ n ↔ k + 1 ≤ wholeN A n)
  | [], n, k, _, hk => absurd hk (Nat.not_lt_zero _)
  | r :: A, n, 0, h, _ => by
    have e : catR ((r :: A).take (0 + 1)) = frR r := by show catR [r] = _; exact catR_one r
    rw [e, wholeN]
    split
    · exact ⟨fun _ => by omega, fun _ => by assumption⟩
    · rename_i hn
      exact ⟨fun h => absurd h hn, fun h => by omega⟩
  | r :: A, n, k + 1, h, hk => by
    have e : catR ((r :: A).take (k + 1 + 1)) = frR r ++ catR (A.take (k + 1)) := rfl
    rw [e, ByteArray.size_append, wholeN]
    have ih := whole_step (A := A) (n := n - (frR r).size) (k := k) (fun x hx => h x (List.mem_cons_of_mem _ hx)) (by simpa using hk)
    split
    · rename_i hle
      constructor
      · intro h2; have := ih.1 (by omega); omega
      · intro h2; have := ih.2 (by omega); omega
    · rename_i hle
      constructor
      · intro h2; omega
      · intro h2; omega
/-- What is counted behind k of the ends. -/
def manyN (A : List Rec) (n k : Nat) : Nat := min k (wholeN A n)
theorem many_step {A : List Rec} {n k : Nat} (h : ∀ r ∈ A, GoodR r) (hk : k < A.length) : manyN A n (k + 1) = if (catR (A.take (k + 1))).size ≤ n then k + 1 else manyN A n k := by
  have hs := whole_step (n := n) h hk
  unfold manyN
  split
  · rename_i hle
    have := hs.1 hle; omega
  · rename_i hle
    have : ¬ k + 1 ≤ wholeN A n := fun h2 => hle (hs.2 h2)
    omega
theorem japp_ok {f : FileS} {r : Rec} (h : (jappP f r).2 = 0) : fileB f = true ∧ GoodR r ∧ (jappP f r).1 = ⟨f.safe, f.tail ++ frR r, f.cap⟩ ∧ (f.safe.size : Int) + f.tail.size + (frR r).size ≤ f.cap := by
  unfold jappP at h ⊢
  by_cases c1 : fileB f = true
  rotate_left
  · rw [if_neg c1] at h; cases h
  rw [if_pos c1] at h ⊢
  by_cases c2 : (bytesR r).2 = 0
  rotate_left
  · rw [if_neg c2] at h
    exact absurd h c2
  rw [if_pos c2] at h ⊢
  obtain ⟨e1, e2, e3⟩ := bytes_ok c2
  unfold fappP at h ⊢
  rw [if_pos c1] at h ⊢
  by_cases c3 : roomF f < (bytesR r).1.size
  · rw [if_pos c3] at h; cases h
  rw [if_neg c3]
  rw [e3] at c3 ⊢
  unfold roomF at c3
  exact ⟨c1, ⟨e1, e2⟩, rfl, by show (f.safe.size : Int) + f.tail.size + (frame (plainS r)).size ≤ f.cap; omega⟩
end Go.Rx
namespace Go.Proofs.YtlkbokedadngfaaGreatDoor.Rx
open Go.Rx Go.Proofs Go.Proofs.YtlkbokedadngfaaGreatDoor.RxB
theorem abort1_b : recB ⟨4, 1, 0, ⟨#[]⟩, ⟨#[]⟩, []⟩ = true := by decide
end Go.Proofs.YtlkbokedadngfaaGreatDoor.Rx

/- The page's files and records; which files the law makes. -/
set_option linter.unusedVariables false
set_option linter.unusedSimpArgs false
namespace Go.Rx
theorem capSum_ge : ∀ (l : List Int) (n : Int), 0 ≤ n → (∀ x ∈ l, 0 ≤ x ∧ x ≤ 140737488351232) → n ≤ 150000000000000 → n ≤ capSum l n
  | [], n, _, _, _ => Int.le_refl _
  | x :: l, n, h0, h, hn => by
    have hx := h x (List.mem_cons_self ..)
    rw [capSum]
    split
    · rw [wrapI (by omega)]
      have := capSum_ge l (n + x) (by omega) (fun y hy => h y (List.mem_cons_of_mem _ hy)) (by omega)
      omega
    · exact Int.le_refl _
theorem capSum_each : ∀ (l : List Int) (n : Int), 0 ≤ n → n ≤ 150000000000000 → (∀ x ∈ l, 0 ≤ x ∧ x ≤ 140737488351232) → capSum l n < 1048576 → ∀ x ∈ l, x ≤ capSum l n
  | [], n, _, _, _, _, x, hx => (List.not_mem_nil hx).elim
  | y :: l, n, h0, hn, h, hc, x, hx => by
    have hy := h y (List.mem_cons_self ..)
    have hl : ∀ x ∈ l, 0 ≤ x ∧ x ≤ 140737488351232 := fun z hz => h z (List.mem_cons_of_mem _ hz)
    by_cases c : n < 1048576
    · have e : capSum (y :: l) n = capSum l (n + y) := by rw [capSum, if_pos c, wrapI (by omega)]
      rw [e] at hc ⊢
      rcases List.mem_cons.1 hx with rfl | hx
      · have := capSum_ge l (n + x) (by omega) hl (by omega)
        omega
      · exact capSum_each l (n + y) (by omega) (by omega) hl hc x hx
    · rw [capSum, if_neg c] at hc
      exact absurd hc c
theorem texts_le {S : List ByteArray} {N : List Int} (hS : ∀ s ∈ S, okS s) (hl : S.length * 16 ≤ 140737488351232) (hN : N.length ≤ 140737488351232) (h : heavy2B S N = false) : ∀ s ∈ S, s.size ≤ 7000 := fun s hs => by
  have hb : ∀ x ∈ (S.map fun s => (s.size : Int)), 0 ≤ x ∧ x ≤ 140737488351232 := fun x hx => by
    obtain ⟨t, ht, rfl⟩ := List.mem_map.1 hx
    have : t.size ≤ 140737488351232 := hS t ht
    omega
  have h1 := capSum_ge (S.map fun s => (s.size : Int)) S.length (by omega) hb (by omega)
  have h2 := capSum_each (S.map fun s => (s.size : Int)) S.length (by omega) (by omega) hb
  have hm := List.mem_map_of_mem (f := fun s : ByteArray => (s.size : Int)) hs
  unfold heavy2B at h
  rw [List.length_map] at h
  have ht : textsW S = capSum (S.map fun s => (s.size : Int)) S.length := rfl
  by_cases c : textsW S < 1048576
  · rw [← ht] at h1 h2
    have h3 := h2 c _ hm
    have h4 : ¬ 7000 < IntKind.i64.wrap (textsW S + (N.length : Int)) := of_decide_eq_false h
    rw [wrapI (by omega)] at h4
    omega
  · exfalso
    have hup : ∀ (l : List Int) (n : Int), 0 ≤ n → n ≤ 150000000000000 → (∀ x ∈ l, 0 ≤ x ∧ x ≤ 140737488351232) → capSum l n ≤ 150000000000000 := fun l => by
      induction l with
      | nil => intro n _ hn _; exact hn
      | cons y l ih =>
        intro n h0 hn hl
        rw [capSum]
        have hy := hl y (List.mem_cons_self ..)
        split
        · rw [wrapI (by omega)]
          exact ih _ (by omega) (by omega) fun z hz => hl z (List.mem_cons_of_mem _ hz)
        · exact hn
    have h5 := hup (S.map fun s => (s.size : Int)) S.length (by omega) (by omega) hb
    rw [← ht] at h5
    have h4 : ¬ 7000 < IntKind.i64.wrap (textsW S + (N.length : Int)) := of_decide_eq_false h
    rw [wrapI (by omega)] at h4
    omega
abbrev cutI (s : ByteArray) (i : Nat) : Nat := (IntKind.i64.wrap (IntKind.i64.wrap ((s.size : Int) - 1) - i)).toNat
def var4 (s : ByteArray) (i : Nat) : List FileS :=
  [⟨s, ⟨#[]⟩, 9000⟩, ⟨s, ⟨#[120]⟩, 9000⟩, ⟨s.extract 0 (cutI s i), ⟨#[]⟩, 9000⟩, ⟨s ++ ⟨#[0, 0, 0, 16]⟩, ⟨#[]⟩, IntKind.i64.wrap (IntKind.i64.wrap ((s.size : Int) + 4) + i)⟩]
def fileStep (r : Rec) (i : Nat) (x : ByteArray × List FileS) : ByteArray × List FileS :=
  if (recB r && ((bytes9R r).2 && decide (x.1.size + (bytes9R r).1.size ≤ 7000))) = true then (x.1 ++ (bytes9R r).1, x.2 ++ var4 (x.1 ++ (bytes9R r).1) i) else x
def filesG : List Rec → Nat → ByteArray × List FileS → ByteArray × List FileS
  | [], _, x => x
  | r :: R, i, x => if 8 ≤ i then x else filesG R (i + 1) (fileStep r i x)
def txtF (s t : ByteArray) : FileS := ⟨s ++ t, ⟨#[]⟩, 20000⟩
def filesL (R : List Rec) (S : List ByteArray) (F : FileS) : List FileS := (filesG R 0 (⟨#[]⟩, [F, ⟨⟨#[]⟩, ⟨#[]⟩, 50⟩])).2 ++ (S.take 2).map (txtF (filesG R 0 (⟨#[]⟩, [F, ⟨⟨#[]⟩, ⟨#[]⟩, 50⟩])).1)
structure FsOk (f : FileS) : Prop where
  ok : f.Ok
  le : f.safe.size ≤ 1000000
def FsAll (l : List FileS) : Prop := ∀ f ∈ l, FsOk f
theorem FsAll.app {l m : List FileS} (h : FsAll l) (k : FsAll m) : FsAll (l ++ m) := fun f hf => by
  rcases List.mem_append.1 hf with h1 | h1
  · exact h f h1
  · exact k f h1
theorem stepJ_ok {r : Rec} {i : Nat} {x : ByteArray × List FileS} (h1 : x.1.size ≤ 7000) (h2 : FsAll x.2) : (fileStep r i x).1.size ≤ 7000 ∧ FsAll (fileStep r i x).2 ∧ (fileStep r i x).2.length ≤ x.2.length + 4 := by
  unfold fileStep
  split
  · rename_i hc
    simp only [Bool.and_eq_true, decide_eq_true_eq] at hc
    have hs : (x.1 ++ (bytes9R r).1).size = x.1.size + (bytes9R r).1.size := ByteArray.size_append
    refine ⟨by show (x.1 ++ (bytes9R r).1).size ≤ 7000; omega, h2.app fun f hf => ?_, by show (x.2 ++ var4 _ i).length ≤ _; rw [List.length_append]; exact Nat.le_refl _⟩
    generalize x.1 ++ (bytes9R r).1 = s at hs hf
    have hs7 : s.size ≤ 7000 := by omega
    have e1 : (s.extract 0 (cutI s i)).size ≤ s.size := by rw [ByteArray.size_extract]; omega
    have e2 : (s ++ ⟨#[0, 0, 0, 16]⟩).size = s.size + 4 := ByteArray.size_append
    simp only [var4, List.mem_cons, List.not_mem_nil, or_false] at hf
    rcases hf with rfl | rfl | rfl | rfl
    · exact ⟨⟨by show s.size ≤ _; omega, Nat.zero_le _⟩, by show s.size ≤ _; omega⟩
    · exact ⟨⟨by show s.size ≤ _; omega, by show (1 : Nat) ≤ _; omega⟩, by show s.size ≤ _; omega⟩
    · exact ⟨⟨by show (s.extract 0 (cutI s i)).size ≤ _; omega, Nat.zero_le _⟩, by show (s.extract 0 (cutI s i)).size ≤ _; omega⟩
    · exact ⟨⟨by show (s ++ ⟨#[0, 0, 0, 16]⟩).size ≤ _; omega, Nat.zero_le _⟩, by show (s ++ ⟨#[0, 0, 0, 16]⟩).size ≤ _; omega⟩
  · exact ⟨h1, h2, by omega⟩
theorem filesG_ok : ∀ (R : List Rec) (i : Nat) (x : ByteArray × List FileS), i ≤ 8 → x.1.size ≤ 7000 → FsAll x.2 → x.2.length ≤ 2 + 4 * i → (filesG R i x).1.size ≤ 7000 ∧ FsAll (filesG R i x).2 ∧ (filesG R i x).2.length ≤ 34
  | [], i, x, hi, h1, h2, h3 => ⟨h1, h2, by show x.2.length ≤ 34; omega⟩
  | r :: R, i, x, hi, h1, h2, h3 => by
    rw [filesG]
    split
    · exact ⟨h1, h2, by omega⟩
    · obtain ⟨a, b, c⟩ := stepJ_ok (r := r) (i := i) h1 h2
      exact filesG_ok R (i + 1) _ (by omega) a b (by omega)
theorem files_ok {R : List Rec} {S : List ByteArray} {F : FileS} (hF : FsOk F) (hS : ∀ s ∈ S, s.size ≤ 7000) : FsAll (filesL R S F) ∧ (filesL R S F).length ≤ 36 := by
  obtain ⟨a, b, c⟩ := filesG_ok R 0 (⟨#[]⟩, [F, ⟨⟨#[]⟩, ⟨#[]⟩, 50⟩]) (by omega) (Nat.zero_le _) (fun f hf => by
    simp only [List.mem_cons, List.not_mem_nil, or_false] at hf
    rcases hf with rfl | rfl
    · exact hF
    · exact ⟨⟨Nat.zero_le _, Nat.zero_le _⟩, Nat.zero_le _⟩) (Nat.le_refl _)
  refine ⟨b.app fun f hf => ?_, ?_⟩
  · obtain ⟨t, ht, rfl⟩ := List.mem_map.1 hf
    have h7 := hS t (List.mem_of_mem_take ht)
    have e : (txtF (filesG R 0 (⟨#[]⟩, [F, ⟨⟨#[]⟩, ⟨#[]⟩, 50⟩])).1 t).safe.size = (filesG R 0 (⟨#[]⟩, [F, ⟨⟨#[]⟩, ⟨#[]⟩, 50⟩])).1.size + t.size := ByteArray.size_append
    exact ⟨⟨by show ByteArray.size _ ≤ _; omega, Nat.zero_le _⟩, by omega⟩
  · rw [filesL, List.length_append, List.length_map, List.length_take]; omega
end Go.Rx
namespace Go.Proofs.YtlkbokedadngfaaGreatDoor.Rx
open Go.Rx Go.Proofs Go.Proofs.YtlkbokedadngfaaGreatDoor.RxB
theorem file9_con (f : FileS) (h : f.Ok) : Con P 24 [encFile f] (Bl (fileB f)) [] := by
  have h1 := h.safe
  have h2 := h.tail
  obtain ⟨q, hq⟩ : ∃ q, q = fileB f := ⟨_, rfl⟩
  rw [← hq]
  refine Con.of T_ok Tryz.func24 rfl (by kernel_rfl) (by kernel_rfl) (aw_of T_ok (by kernel_rfl) ?_)
  conv => whnf
  refine callS (between_con f.cap 1 60000) rfl ?_
  conv => whnf
  split <;> rename_i t1 <;> conv => whnf
  · have hc : (decide (1 ≤ f.cap) && decide (f.cap ≤ 60000)) = true := t1
    simp only [Bool.and_eq_true, decide_eq_true_eq] at hc
    split <;> rename_i t2 <;> conv => whnf
    · have a2 : (f.safe.size : Int) ≤ f.cap := of_decide_eq_true t2
      refine finB ⟨?_⟩
      rw [hq, wrapI (by omega), fileB, decide_eq_true hc.1, decide_eq_true hc.2, Bool.true_and, Bool.true_and, decide_eq_decide]
      omega
    · have a2 : ¬ (f.safe.size : Int) ≤ f.cap := of_decide_eq_false t2
      refine finB ⟨?_⟩
      rw [hq, eq_comm, ← Bool.not_eq_true, fileB_iff]
      omega
  · have hc : (decide (1 ≤ f.cap) && decide (f.cap ≤ 60000)) = false := t1
    refine finB ⟨?_⟩
    rw [hq, fileB, ← Bool.and_assoc, hc]; rfl
end Go.Proofs.YtlkbokedadngfaaGreatDoor.Rx

/- The page's look at a world. -/
set_option linter.unusedVariables false
set_option linter.unusedSimpArgs false
namespace Go.Rx
def outsB (l : List Int) : Bool := decide ((l.length : Int) ≤ 400) && !(l.any outBad)
/-- May a live be, whose saga may be: as the page says. -/
def live9B (v : Live) : Bool :=
  if !(decide (0 ≤ v.tries) && decide (v.tries ≤ 1073741824)) || !(decide (0 ≤ v.due) && decide (v.due ≤ 1073741832)) then false
  else if decide (v.write = zRec) then !v.put else if !(recB v.write) || v.write.kind == 1 then false else fitsL v
theorem idx_ge {α : Type} {p : α → Bool} : ∀ (l : List α) (k : Nat), -1 ≤ idxL p l k
  | [], k => by rw [idxL]; exact Int.le_refl _
  | a :: l, k => by
    rw [idxL]
    split
    · omega
    · exact idx_ge l (k + 1)
theorem nothing_eq (r : Rec) : nothingB r = decide (r = zRec) := by
  obtain ⟨k, i, n, key, body, steps⟩ := r
  rw [nothingB, zRec, recEq]
  simp only
  cases steps with
  | nil => simp [Bool.and_assoc]
  | cons a l =>
    simp
    intros
    omega
theorem live9_eq (v : Live) : live9B v = liveB v := by
  have hc : (!(decide (0 ≤ v.tries) && decide (v.tries ≤ 1073741824)) || !(decide (0 ≤ v.due) && decide (v.due ≤ 1073741832))) = (decide (v.tries < 0) || (decide (1073741824 < v.tries) || (decide (v.due < 0) || decide (1073741832 < v.due)))) := by
    rw [Bool.eq_iff_iff]; simp; omega
  have hd : (if (!(recB v.write) || v.write.kind == 1) = true then false else fitsL v) = (v.write.kind != 1 && (recB v.write && fitsL v)) := by
    cases h : v.write.kind == 1 <;> cases recB v.write <;> simp [bne, h]
  rw [live9B, liveB, nothing_eq, hc, hd]
end Go.Rx
namespace Go.Proofs.YtlkbokedadngfaaGreatDoor.Rx
open Go.Rx Go.Proofs Go.Proofs.YtlkbokedadngfaaGreatDoor.RxH
theorem sagas9_con (l : List Saga) (hl : l.length * 96 ≤ 140737488351232) (hs : ∀ s ∈ l, s.Ok) : Con P 25 [.lf (.pv (encSagas l))] (Bl (togB l)) [] := by
  have hm : (l.map Saga.enc).length = l.length := List.length_map ..
  refine Con.of T_ok Tryz.func25 rfl (by kernel_rfl) (by kernel_rfl) (aw_of T_ok (by kernel_rfl) ?_)
  conv => whnf
  split <;> rename_i h0 <;> conv => whnf
  · have h0' : ¬ l.length ≤ 20 := by have : ((l.map Saga.enc).length : Int) > 20 := of_decide_eq_true h0
                                     omega
    exact finB ⟨by rw [togB, show decide (l.length ≤ 20) = false from decide_eq_false h0', Bool.and_false]⟩
  have h0' : l.length ≤ 20 := by have : ¬ ((l.map Saga.enc).length : Int) > 20 := of_decide_eq_false h0
                                 omega
  refine AW.loop (fun k : Nat => k ≤ l.length ∧ ∀ j, j < k → togAt l j = true) (fun k => [(0, .lf (.pv (encSagas l))), (3, Go.Rx.I k)]) (fun _ => []) (fun k => l.length - k) [] ?_ ?_
  · exact ⟨0, ⟨Nat.zero_le _, fun j hj => absurd hj (Nat.not_lt_zero _)⟩, ⟨rfl, rfl, trivial⟩, ⟨[], rfl⟩, rfl, rfl⟩
  rintro k ⟨hk, hpre⟩
  refine aw_of T_ok (by kernel_rfl) ?_
  conv => whnf
  split <;> rename_i hlt <;> conv => whnf
  · have hkl : k < l.length := by simpa using hlt
    have hrow : (l.map Saga.enc)[k]? = some (l[k]).enc := by simp [hkl]
    have hat := togAt_eq hkl
    have hsk := hs _ (List.getElem_mem hkl)
    have hid : ∀ (i : Nat) (s : Saga), (l.take k)[i]? = some s → s.id = i + 1 := fun i s hi => by
      have hik : i < k := by have := (List.getElem?_eq_some_iff.1 hi).1; rw [List.length_take] at this; omega
      have h1 := hpre i hik
      rw [List.getElem?_take_of_lt hik] at hi
      unfold togAt at h1
      rw [hi] at h1
      simp only [Bool.and_eq_true, beq_iff_eq] at h1
      rw [h1.2.1]; simp
    generalize l[k] = s at hrow hat hsk
    have no : togAt l k = false → false = togB l := fun h => by rw [togB, tog_no hkl h]; rfl
    refine AW.draw T_ok rfl (listPl [0, 1, 2, 3, 4, 5, 6, 7, 8, 9, 10, 11, 12, 13, 14, 15, 16, 17, 18, 20, 21, 22, 23, 24, 19, 25, 26, 27]) (by kernel_rfl) (by kernel_rfl) ?_
    conv => whnf
    refine ⟨by omega, s.enc, hrow, ?_⟩
    conv => whnf
    refine callS (saga9_con s hsk) rfl ?_
    conv => whnf
    split <;> rename_i h1 <;> conv => whnf
    · exact finB ⟨no (by rw [hat, show sagaB s = false by simpa using h1]; rfl)⟩
    have w1 : IntKind.i64.wrap ((k : Int) + 1) = ((k + 1 : Nat) : Int) := wrapI (by omega)
    refine ⟨by omega, s.enc, hrow, ?_⟩
    conv => whnf
    split <;> rename_i h2 <;> conv => whnf
    · refine finB ⟨no ?_⟩
      have h2' : (s.id != IntKind.i64.wrap ((k : Int) + 1)) = true := h2
      rw [w1] at h2'
      rw [hat, show (s.id == ((k + 1 : Nat) : Int)) = false by simpa using h2']
      simp
    have h2' : (s.id == ((k + 1 : Nat) : Int)) = true := by
      have h2' : (s.id != IntKind.i64.wrap ((k : Int) + 1)) = false := h2
      rw [w1] at h2'
      simpa using h2'
    refine ⟨by omega, s.enc, hrow, ?_⟩
    conv => whnf
    refine ⟨by decide, by omega, by rw [hm]; omega, ?_⟩
    conv => whnf
    have ck := find9_con (l.take k) s.key (by rw [List.length_take]; omega) hid
    rw [show encSagas (l.take k) = .sl 9 ((l.map Saga.enc).take k) by rw [encSagas, List.map_take]] at ck
    refine callS ck rfl ?_
    conv => whnf
    have hkn : -1 ≤ keyI (l.take k) s.key := idx_ge _ _
    split <;> rename_i h3 <;> conv => whnf
    · refine finB ⟨no ?_⟩
      have h3' : keyI (l.take k) s.key + 1 > 0 := of_decide_eq_true h3
      rw [hat, decide_eq_true (show 0 ≤ keyI (l.take k) s.key by omega)]
      simp
    have h3' : ¬ keyI (l.take k) s.key + 1 > 0 := of_decide_eq_false h3
    refine ⟨k + 1, ⟨⟨by omega, fun j hj => ?_⟩, by omega⟩, ⟨rfl, congrArg Go.Rx.I w1, trivial⟩, ⟨[], rfl⟩, rfl, rfl⟩
    rcases Nat.lt_or_ge j k with hjk | hjk
    · exact hpre j hjk
    · obtain rfl : j = k := by omega
      rw [hat, show sagaB s = true by simpa using h1, h2', decide_eq_false (show ¬ 0 ≤ keyI (l.take j) s.key by omega)]
      rfl
  · have hkl : k = l.length := by have : ¬ ((k : Int) < (l.length : Int)) := by simpa using hlt
                                  omega
    refine finB ⟨?_⟩
    rw [togB, tog_yes (fun j hj => hpre j (by omega)), Bool.true_and, decide_eq_true h0']
theorem outs16_con (l : List Int) (hl : l.length * 8 ≤ 140737488351232) : Con P 27 [.lf (.pv (encInts l))] (Bl (outsB l)) [] := by
  have hm : (l.map fun n => [pI n]).length = l.length := List.length_map ..
  have hq : outsB l = (decide ((l.length : Int) ≤ 400) && !(l.any outBad)) := rfl
  refine Con.of T_ok Tryz.func27 rfl (by kernel_rfl) (by kernel_rfl) (aw_of T_ok (by kernel_rfl) ?_)
  conv => whnf
  refine AW.loop (fun k : Nat => k ≤ l.length ∧ k ≤ 401 ∧ (l.take k).any outBad = false) (fun k => [(0, .lf (.pv (encInts l))), (3, Go.Rx.I k)]) (fun _ => []) (fun k => l.length - k) [] ?_ ?_
  · exact ⟨0, ⟨Nat.zero_le _, Nat.zero_le _, rfl⟩, ⟨rfl, rfl, trivial⟩, ⟨[], rfl⟩, rfl, rfl⟩
  rintro k ⟨hk, hk4, hpre⟩
  have fin : ¬ (k < l.length ∧ k ≤ 400) → decide ((l.length : Int) ≤ 400) = outsB l := fun h => by
    rw [hq]
    by_cases h4 : l.length ≤ 400
    · have : k = l.length := by omega
      rw [this, List.take_length] at hpre
      rw [hpre, Bool.not_false, Bool.and_true]
    · rw [decide_eq_false (by omega)]; rfl
  refine aw_of T_ok (by kernel_rfl) ?_
  conv => whnf
  split <;> rename_i hlt <;> conv => whnf
  · have hkl : k < l.length := by have : (k : Int) < ((l.map fun n => [pI n]).length : Int) := of_decide_eq_true hlt
                                  omega
    split <;> rename_i h4 <;> conv => whnf
    · have h4' : k ≤ 400 := by have : (k : Int) ≤ 400 := of_decide_eq_true h4
                               omega
      have hrow : (l.map fun n => [pI n])[k]? = some [pI l[k]] := by simp [hkl]
      have hnx : l.take (k + 1) = l.take k ++ [l[k]] := take_succ' hkl
      have hmem := List.getElem_mem hkl
      generalize l[k] = n at hrow hnx hmem
      refine ⟨by omega, _, hrow, ?_⟩
      conv => whnf
      refine callS (between_con n 0 3) rfl ?_
      conv => whnf
      split <;> rename_i h5 <;> conv => whnf
      · have h5' : outBad n = true := by
          have h6 : (!(decide (0 ≤ n) && decide (n ≤ 3))) = true := h5
          rw [outBad]; simp at h6 ⊢; omega
        refine finB ⟨?_⟩
        rw [hq, show l.any outBad = true from List.any_eq_true.2 ⟨n, hmem, h5'⟩]; simp
      · have h5' : outBad n = false := by
          have h6 : (!(decide (0 ≤ n) && decide (n ≤ 3))) = false := h5
          rw [outBad]; simp at h6 ⊢; omega
        exact ⟨k + 1, ⟨⟨hkl, by omega, by rw [hnx, List.any_append, hpre, List.any_cons, h5']; rfl⟩, by omega⟩, ⟨rfl, congrArg Go.Rx.I (wrapI (by omega)), trivial⟩, ⟨[], rfl⟩, rfl, rfl⟩
    · have h4' : ¬ k ≤ 400 := by have : ¬ (k : Int) ≤ 400 := of_decide_eq_false h4
                                 omega
      refine finB ⟨?_⟩
      rw [← fin (by omega), hm]
  · have hkl : ¬ k < l.length := by have : ¬ (k : Int) < ((l.map fun n => [pI n]).length : Int) := of_decide_eq_false hlt
                                    omega
    refine finB ⟨?_⟩
    rw [← fin (by omega), hm]
theorem sagas16_con (w : Wd) (hl : w.lives.length * 200 ≤ 140737488351232) : Con P 26 [encWd w] (.lf (.own 0 (sagasL w.lives).length)) [.arr 39 9 ((sagasL w.lives).map Saga.enc)] := by
  have hsl : ∀ m : List Live, (sagasL m).length = m.length := fun m => List.length_map ..
  have hlm : (w.lives.map Live.enc).length = w.lives.length := List.length_map ..
  refine ConG.con (ConG.of T_ok Tryz.func26 rfl (by kernel_rfl) (by kernel_rfl) (aw_of T_ok (by kernel_rfl) ?_)) rfl
  conv => whnf
  refine AW.loop (fun k : Nat => k ≤ w.lives.length) (fun k => [(1, .lf (.ptr 0 0)), (3, .lf (.own 1 (sagasL (w.lives.take k)).length)), (4, Go.Rx.I k)]) (fun k => [.var w.lfs, .arr 39 9 ((sagasL (w.lives.take k)).map Saga.enc)]) (fun k => w.lives.length - k) [.slot 3 39 9] ?_ ?_
  · exact ⟨rfl, 0, Nat.zero_le _, ⟨rfl, rfl, rfl, trivial⟩, ⟨[], rfl⟩, rfl, rfl⟩
  intro k hk
  refine aw_of T_ok (by kernel_rfl) ?_
  conv => whnf
  split <;> rename_i hlt <;> conv => whnf
  · have hkl : k < w.lives.length := by have : (k : Int) < ((w.lives.map Live.enc).length : Int) := of_decide_eq_true hlt
                                        omega
    have hnx : sagasL (w.lives.take (k + 1)) = sagasL (w.lives.take k) ++ [w.lives[k].saga] := by rw [sagasL, take_succ' hkl, List.map_append]; rfl
    refine ⟨by omega, (w.lives[k]).enc, by simp [hkl], ?_⟩
    conv => whnf
    refine ⟨rfl, _, .inl rfl, ?_⟩
    conv => whnf
    have hb := hsl (w.lives.take k)
    rw [List.length_take] at hb
    refine ⟨List.length_map .., by show ((sagasL (w.lives.take k)).length + 1) * 96 ≤ _; omega, ?_⟩
    conv => whnf
    refine ⟨k + 1, ⟨hkl, by omega⟩, ⟨rfl, ?zu, congrArg Go.Rx.I (wrapI (by omega)), trivial⟩, ⟨[?zr1], ?zb⟩, rfl, rfl⟩
    case zu => rw [hnx, List.length_append]; rfl
    case zb =>
      show _ = [_, Blk.arr _ 9 ((sagasL (w.lives.take (k + 1))).map Saga.enc)] ++ [_]
      rw [hnx, List.map_append]
      rfl
  · have hkl : w.lives.take k = w.lives := List.take_of_length_le (by have : ¬ (k : Int) < ((w.lives.map Live.enc).length : Int) := of_decide_eq_false hlt
                                                                      omega)
    rw [hkl]
    exact ⟨[], [1], [.lf (.own 0 (sagasL w.lives).length)], [.lf (.own 0 (sagasL w.lives).length)], rfl, rfl, rfl, wk_refl _, rfl⟩
theorem live16_con (v : Live) (hv : v.Ok) (hs : sagaB v.saga = true) : Con P 29 [encLive v] (Bl (liveB v)) [] := by
  have hlen := hv.write.steps.len
  have ce := eqRec_con v.write zRec hlen
  have cr := rec9_con v.write hv.write
  have ca := fun h => apply9_con v.saga v.write hv.saga hv.write hs h
  have hq : live9B v = if !(decide (0 ≤ v.tries) && decide (v.tries ≤ 1073741824)) || !(decide (0 ≤ v.due) && decide (v.due ≤ 1073741832)) then false
    else if decide (v.write = zRec) then !v.put else if !(recB v.write) || v.write.kind == 1 then false else fitsL v := rfl
  rw [← live9_eq]
  obtain ⟨q, he⟩ : ∃ q, q = live9B v := ⟨_, rfl⟩
  rw [← he] at hq ⊢
  have hf : recB v.write = true → fitsL v = ((applyS v.saga v.write).2 == 0) := fun h => by
    rw [apply9_same hs h, apply9S, fitsL]
    cases h1 : v.write.id == v.saga.id with
    | false => rw [if_pos (by rw [bne, h1]; rfl)]; rfl
    | true =>
      rw [if_neg (by rw [bne, h1]; decide)]
      cases h2 : (v.saga.status == 0 && fitsB v.saga v.write) with
      | true => rfl
      | false => rfl
  generalize decide (v.write = zRec) = b1 at ce hq
  generalize recB v.write = b2 at cr ca hq hf
  generalize fitsL v = b3 at hq hf
  generalize applyS v.saga v.write = x at ca hf
  refine Con.of T_ok Tryz.func29 rfl (by kernel_rfl) (by kernel_rfl) (aw_of T_ok (by kernel_rfl) ?_)
  conv => whnf
  refine callS (numB_con v.tries 1073741824) rfl ?_
  conv => whnf
  split <;> rename_i h1 <;> conv => whnf
  · have h1' : (!(decide (0 ≤ v.tries) && decide (v.tries ≤ 1073741824))) = true := h1
    exact finB ⟨by rw [hq, h1']; rfl⟩
  have h1' : (!(decide (0 ≤ v.tries) && decide (v.tries ≤ 1073741824))) = false := h1
  refine callS (numB_con v.due 1073741832) rfl ?_
  conv => whnf
  split <;> rename_i h2 <;> conv => whnf
  · have h2' : (!(decide (0 ≤ v.due) && decide (v.due ≤ 1073741832))) = true := h2
    exact finB ⟨by rw [hq, h1', h2']; rfl⟩
  have h2' : (!(decide (0 ≤ v.due) && decide (v.due ≤ 1073741832))) = false := h2
  rw [if_neg (by rw [h1', h2']; decide)] at hq
  refine callW ce ⟨.inl rfl, .inr (.inr ⟨_, _, rfl, rfl, wkE _, wkE _, wkE _, wkE _, wkE _, wkN 6, trivial⟩), trivial⟩ rfl ?_
  conv => whnf
  cases b1 with
  | true =>
    conv => whnf
    exact finB ⟨by rw [hq]; rfl⟩
  | false =>
  rw [if_neg (by decide)] at hq
  conv => whnf
  refine callS cr rfl ?_
  conv => whnf
  cases b2 with
  | false =>
    conv => whnf
    exact finB ⟨by rw [hq]; rfl⟩
  | true =>
  conv => whnf
  split <;> rename_i h4 <;> conv => whnf
  · have h4' : (v.write.kind == 1) = true := h4
    exact finB ⟨by rw [hq, h4']; rfl⟩
  have h4' : (v.write.kind == 1) = false := h4
  rw [h4', if_neg (by decide), hf rfl] at hq
  refine callU (ca rfl) (fun _ => rfl) ?_
  conv => whnf
  exact finB ⟨hq.symm⟩
end Go.Proofs.YtlkbokedadngfaaGreatDoor.Rx

/- The page's look at a world: the whole. -/
set_option linter.unusedVariables false
set_option linter.unusedSimpArgs false
namespace Go.Rx
def num30 (n : Int) : Bool := decide (0 ≤ n) && decide (n ≤ 1073741824)
theorem worldB_eq (w : Wd) : worldB w = (num30 w.clock && (fileB w.file && (((w.ledgers.length : Int) == 4) && (togB (sagasL w.lives) && (outsB w.outs && (num30 w.taken && (ledgersGo w.ledgers 0 && w.lives.all liveB))))))) := by
  have h1 : num30 w.clock = !(decide (w.clock < 0) || decide (1073741824 < w.clock)) := by rw [num30, Bool.eq_iff_iff]; simp
  have h2 : num30 w.taken = !(decide (w.taken < 0) || decide (1073741824 < w.taken)) := by rw [num30, Bool.eq_iff_iff]; simp
  have h3 : outsB w.outs = !(decide (400 < (w.outs.length : Int)) || w.outs.any outBad) := by
    rw [outsB]
    cases w.outs.any outBad
    · rw [Bool.not_false, Bool.and_true, Bool.or_false, Bool.eq_iff_iff]; simp
    · simp
  have h4 : w.lives.all liveB = !(w.lives.any fun v => !(liveB v)) := by simp [List.all_eq_not_any_not]
  rw [worldB, h1, h2, h3, h4, ledgersB]
  generalize decide (w.clock < 0) = a1
  generalize decide (1073741824 < w.clock) = a2
  generalize decide (w.taken < 0) = a3
  generalize decide (1073741824 < w.taken) = a4
  generalize decide (400 < (w.outs.length : Int)) = a5
  generalize w.outs.any outBad = a6
  generalize fileB w.file = a7
  generalize ledgersGo w.ledgers 0 = a8
  generalize ((w.ledgers.length : Int) == 4) = a9
  generalize togB (sagasL w.lives) = b1
  generalize (w.lives.any fun v => !(liveB v)) = b2
  cases a1 <;> cases a2 <;> cases a3 <;> cases a4 <;> cases a5 <;> cases a6 <;> cases a7 <;> cases a8 <;> cases a9 <;> cases b1 <;> cases b2 <;> rfl
end Go.Rx
namespace Go.Proofs.YtlkbokedadngfaaGreatDoor.Rx
open Go.Rx Go.Proofs Go.Proofs.YtlkbokedadngfaaGreatDoor.RxH
theorem world16_con (w : Wd) (hw : w.Ok) : Con P 11 [encWd w] (Bl (worldB w)) [] := by
  have hgm : (w.ledgers.map Ledger.enc).length = w.ledgers.length := List.length_map ..
  have hlm : (w.lives.map Live.enc).length = w.lives.length := List.length_map ..
  have hsm : ((sagasL w.lives).map Saga.enc).length = (sagasL w.lives).length := List.length_map ..
  have hgl := hw.gl
  have hll := hw.ll
  have cf := file9_con w.file hw.file
  have cS := sagas16_con w hw.ll
  have cs := sagas9_con (sagasL w.lives) (by rw [sagasL, List.length_map]; have := hw.ll; omega) (fun s hs => by rw [sagasL, List.mem_map] at hs; obtain ⟨v, hv, rfl⟩ := hs; exact (hw.lives v hv).saga)
  have co := outs16_con w.outs hw.ol
  have hsg : togB (sagasL w.lives) = true → ∀ v ∈ w.lives, sagaB v.saga = true := fun h v hv => tog_saga h hv
  obtain ⟨q, hq⟩ : ∃ q, q = worldB w := ⟨_, rfl⟩
  rw [← hq]
  rw [worldB_eq] at hq
  generalize fileB w.file = b1 at cf hq
  generalize togB (sagasL w.lives) = b2 at cs hsg hq
  generalize outsB w.outs = b3 at co hq
  refine Con.of T_ok Tryz.func11 rfl (by kernel_rfl) (by kernel_rfl) (aw_of T_ok (by kernel_rfl) ?_)
  conv => whnf
  refine callS (numB_con w.clock 1073741824) rfl ?_
  conv => whnf
  split <;> rename_i h1 <;> conv => whnf
  · have h1' : num30 w.clock = false := by have h2 : (!(num30 w.clock)) = true := h1; simpa using h2
    exact finB ⟨by rw [hq, h1']; rfl⟩
  have h1' : num30 w.clock = true := by have h2 : (!(num30 w.clock)) = false := h1; simpa using h2
  rw [h1', Bool.true_and] at hq
  refine callS cf rfl ?_
  conv => whnf
  cases b1 with
  | false =>
    conv => whnf
    exact finB ⟨by rw [hq]; rfl⟩
  | true =>
  rw [Bool.true_and] at hq
  conv => whnf
  split <;> rename_i h2 <;> conv => whnf
  · have h2' : ((w.ledgers.length : Int) == 4) = false := by
      have h3 : (((w.ledgers.map Ledger.enc).length : Int) != 4) = true := h2
      rw [hgm] at h3; simpa using h3
    exact finB ⟨by rw [hq, h2']; rfl⟩
  have h2' : ((w.ledgers.length : Int) == 4) = true := by
    have h3 : (((w.ledgers.map Ledger.enc).length : Int) != 4) = false := h2
    rw [hgm] at h3; simpa using h3
  have hg4 : w.ledgers.length = 4 := by have : (w.ledgers.length : Int) = 4 := eq_of_beq h2'
                                        omega
  rw [h2', Bool.true_and] at hq
  refine ⟨_, _, _, wk_refl _, cS, .inr ?_⟩
  conv => whnf
  refine ⟨hsm, ?_⟩
  conv => whnf
  refine callS cs rfl ?_
  conv => whnf
  cases b2 with
  | false =>
    conv => whnf
    exact finB ⟨by rw [hq]; rfl⟩
  | true =>
  rw [Bool.true_and] at hq
  have hsg' := hsg rfl
  conv => whnf
  refine callS co rfl ?_
  conv => whnf
  cases b3 with
  | false =>
    conv => whnf
    exact finB ⟨by rw [hq]; rfl⟩
  | true =>
  rw [Bool.true_and] at hq
  conv => whnf
  refine callS (numB_con w.taken 1073741824) rfl ?_
  conv => whnf
  split <;> rename_i h3 <;> conv => whnf
  · have h3' : num30 w.taken = false := by have h4 : (!(num30 w.taken)) = true := h3; simpa using h4
    exact finB ⟨by rw [hq, h3']; rfl⟩
  have h3' : num30 w.taken = true := by have h4 : (!(num30 w.taken)) = false := h3; simpa using h4
  rw [h3', Bool.true_and] at hq
  refine AW.loop (fun k : Nat => k ≤ w.ledgers.length ∧ q = (ledgersGo (w.ledgers.drop k) k && w.lives.all liveB)) (fun k => [(1, .lf (.ptr 0 0)), (3, Go.Rx.I k)]) (fun _ => [.var w.lfs]) (fun k => w.ledgers.length - k) [] ?_ ?_
  · exact ⟨0, ⟨Nat.zero_le _, hq⟩, ⟨rfl, rfl, trivial⟩, ⟨[_], rfl⟩, rfl, rfl⟩
  rintro k ⟨hk, hpre⟩
  refine aw_of T_ok (by kernel_rfl) ?_
  conv => whnf
  split <;> rename_i hlt <;> conv => whnf
  · have hkl : k < w.ledgers.length := by have : (k : Int) < 4 := of_decide_eq_true hlt
                                          omega
    have hrow : (w.ledgers.map Ledger.enc)[k]? = some w.ledgers[k].enc := by simp [hkl]
    have hok := hw.ledgers w.ledgers[k] (List.getElem_mem hkl)
    rw [ledg_go hkl] at hpre
    generalize w.ledgers[k] = g at hrow hok hpre
    have wk : IntKind.i64.wrap ((k : Int) + 1) = ((k + 1 : Nat) : Int) := wrapI (by omega)
    have wk' : IntKind.i64.wrap (1 + (k : Int)) = ((k + 1 : Nat) : Int) := by rw [Int.add_comm]; exact wk
    refine ⟨by omega, _, hrow, ?_⟩
    conv => whnf
    split <;> rename_i h4 <;> conv => whnf
    · have h4' : (g.service == ((k + 1 : Nat) : Int)) = false := by
        have h5 : (g.service != IntKind.i64.wrap (1 + (k : Int))) = true := h4
        rw [wk'] at h5; simpa using h5
      exact finB ⟨by rw [hpre, h4']; rfl⟩
    have h4' : (g.service == ((k + 1 : Nat) : Int)) = true := by
      have h5 : (g.service != IntKind.i64.wrap (1 + (k : Int))) = false := h4
      rw [wk'] at h5; simpa using h5
    refine ⟨by omega, _, hrow, ?_⟩
    conv => whnf
    refine callS (ledger9_con g hok) rfl ?_
    conv => whnf
    split <;> rename_i h5 <;> conv => whnf
    · have h5' : ledgerB g = false := by simpa using h5
      exact finB ⟨by rw [hpre, h4', h5']; rfl⟩
    · have h5' : ledgerB g = true := by simpa using h5
      rw [h4', h5', Bool.true_and, Bool.true_and] at hpre
      exact ⟨k + 1, ⟨⟨hkl, hpre⟩, by omega⟩, ⟨rfl, congrArg Go.Rx.I wk, trivial⟩, ⟨[], rfl⟩, rfl, rfl⟩
  · have hkl : w.ledgers.length ≤ k := by have : ¬ (k : Int) < 4 := of_decide_eq_false hlt
                                          omega
    rw [List.drop_of_length_le hkl] at hpre
    have hpre' : q = w.lives.all liveB := hpre.trans (Bool.true_and _)
    refine AW.loop (fun k : Nat => k ≤ w.lives.length ∧ q = (w.lives.drop k).all liveB) (fun k => [(1, .lf (.ptr 0 0)), (4, Go.Rx.I k)]) (fun _ => [.var w.lfs]) (fun k => w.lives.length - k) [] ?_ ?_
    · exact ⟨0, ⟨Nat.zero_le _, hpre'⟩, ⟨rfl, rfl, trivial⟩, ⟨[], rfl⟩, rfl, rfl⟩
    rintro k ⟨hk, hpre⟩
    refine aw_of T_ok (by kernel_rfl) ?_
    conv => whnf
    split <;> rename_i hlt <;> conv => whnf
    · have hkl : k < w.lives.length := by have : (k : Int) < ((w.lives.map Live.enc).length : Int) := of_decide_eq_true hlt
                                          omega
      have hrow : (w.lives.map Live.enc)[k]? = some w.lives[k].enc := by simp [hkl]
      have hok := hw.lives w.lives[k] (List.getElem_mem hkl)
      have hs1 := hsg' w.lives[k] (List.getElem_mem hkl)
      rw [List.drop_eq_getElem_cons hkl, List.all_cons] at hpre
      generalize w.lives[k] = v at hrow hok hs1 hpre
      refine ⟨by omega, _, hrow, ?_⟩
      conv => whnf
      refine callS (live16_con v hok hs1) rfl ?_
      conv => whnf
      split <;> rename_i h5 <;> conv => whnf
      · have h5' : liveB v = false := by simpa using h5
        exact finB ⟨by rw [hpre, h5']; rfl⟩
      · have h5' : liveB v = true := by simpa using h5
        rw [h5', Bool.true_and] at hpre
        exact ⟨k + 1, ⟨⟨hkl, hpre⟩, by omega⟩, ⟨rfl, congrArg Go.Rx.I (wrapI (by omega)), trivial⟩, ⟨[], rfl⟩, rfl, rfl⟩
    · have hkl : w.lives.length ≤ k := by have : ¬ (k : Int) < ((w.lives.map Live.enc).length : Int) := of_decide_eq_false hlt
                                          omega
      rw [List.drop_of_length_le hkl] at hpre
      exact finB ⟨by rw [hpre]; rfl⟩
end Go.Proofs.YtlkbokedadngfaaGreatDoor.Rx

/- A call, and its undoing. -/
set_option linter.unusedVariables false
set_option linter.unusedSimpArgs false
namespace Go.Rx
def callL (g : Ledger) (k : Int) (op who : ByteArray) (n out : Int) : Ledger × Int × Int := if askB g k op who n out = true then doL g ⟨k, false, op, who, n⟩ false out else (zL, 0, 1)
def undoL (g : Ledger) (k of' : Int) (op who : ByteArray) (n out : Int) : Ledger × Int × Int := if askB g k op who n out = true ∧ 1 ≤ of' ∧ of' ≤ 1073741824 then doL g ⟨k, true, op, who, n⟩ (!(doneB g.entries of')) out else (zL, 0, 1)
theorem ask_sorted {g : Ledger} {k : Int} {op who : ByteArray} {n out : Int} (h : askB g k op who n out = true) : g.known.Pairwise (· < ·) := by
  rw [askB, Bool.and_eq_true] at h
  exact known_sorted (ledger_parts h.1).2.2.1
end Go.Rx
namespace Go.Proofs.YtlkbokedadngfaaGreatDoor.Rx
open Go.Rx Go.Proofs Go.Proofs.YtlkbokedadngfaaGreatDoor.RxH

end Go.Proofs.YtlkbokedadngfaaGreatDoor.Rx

/- What happens to a ledger: the page's answer. -/
set_option linter.unusedVariables false
set_option linter.unusedSimpArgs false
namespace Go.Rx
def isB (l : List Entry) (of' : Int) (back : Bool) : Bool := !back || l.any fun e => e.key == of' && !e.back
theorem isB_succ {l : List Entry} {of' : Int} {back : Bool} {i : Nat} (h : i < l.length) : isB (l.take (i + 1)) of' back = (isB (l.take i) of' back || ((l[i]).key == of' && !(l[i]).back)) := by
  rw [isB, take_succ' h, List.any_append]; simp [isB, Bool.or_assoc]
def ansH (out : Int) : Int := if out = 3 then 2 else 0
def hapL (g : Ledger) (k of' : Int) (back : Bool) (op who : ByteArray) (n out : Int) : Ledger × Int × Int :=
  if g.known.contains k = true then (g, if out = 2 ∨ out = 3 then 2 else 0, 0)
  else if out = 1 ∨ out = 2 then (g, out, 0)
  else if 200 ≤ g.entries.length ∨ 400 ≤ g.known.length then (zL, 0, 7)
  else (⟨g.service, if isB g.entries of' back then g.entries ++ [⟨k, back, op, who, n⟩] else g.entries, insL g.known (posL g.known k) k⟩, ansH out, 0)
abbrev ledP (p : Ledger × Int × Int) : AV := .tup [tLedger p.1, .lf (.pv (pI p.2.1)), .lf (.pv (pI p.2.2))]
theorem finLP {g : Ledger} {a e : Int} {q : Ledger × Int × Int} (h : Fin (g, a, e) q) : ∃ zs, Fa WkA [encLedger g, Go.Rx.I a, Go.Rx.I e] zs ∧ pack zs = some (ledP q) := by
  refine ⟨_, wk_refl _, ?_⟩
  rw [← h.out]; rfl
theorem finLZ {a e : Int} {q : Ledger × Int × Int} (h : Fin (zL, a, e) q) : ∃ zs, Fa WkA [.agg [.pv (pI 0), .pv (.sc (.slice none 0 0)), .pv (.sc (.slice none 0 0))], Go.Rx.I a, Go.Rx.I e] zs ∧ pack zs = some (ledP q) := by
  refine ⟨[encLedger zL, Go.Rx.I a, Go.Rx.I e], ⟨.inr (.inr ⟨_, _, rfl, rfl, wkE _, wkN 5, wkN 1, trivial⟩), .inl rfl, .inl rfl, trivial⟩, ?_⟩
  rw [← h.out]; rfl
/-- The first that is not less. -/
theorem pos_first {l : List Int} {k : Int} {i : Nat} (hi : i ≤ l.length) (h1 : ∀ t (ht : t < l.length), t < i → l[t] < k) (h2 : ∀ (ht : i < l.length), ¬ l[i] < k) : posL l k = i := by
  have e : l = l.take i ++ l.drop i := (List.take_append_drop i l).symm
  have e1 : (l.take i).takeWhile (fun x => decide (x < k)) = l.take i := tw_all fun x hx => by
    obtain ⟨t, ht, rfl⟩ := List.getElem_of_mem hx
    rw [List.length_take] at ht
    rw [List.getElem_take]
    exact decide_eq_true (h1 t (by omega) (by omega))
  have e2 : (l.drop i).takeWhile (fun x => decide (x < k)) = [] := by
    rcases Nat.lt_or_ge i l.length with hl | hl
    · rw [List.drop_eq_getElem_cons hl, List.takeWhile_cons_of_neg (by have := h2 hl; simpa using this)]
    · rw [List.drop_of_length_le hl]; rfl
  unfold posL
  have e3 : l.takeWhile (fun x => decide (x < k)) = l.take i := by
    conv => lhs; rw [e]
    rw [List.takeWhile_append, e1, if_pos rfl, e2, List.append_nil]
  rw [e3, List.length_take]
  omega
end Go.Rx
namespace Go.Proofs.YtlkbokedadngfaaGreatDoor.Rx
open Go.Rx Go.Proofs Go.Proofs.YtlkbokedadngfaaGreatDoor.RxH

end Go.Proofs.YtlkbokedadngfaaGreatDoor.Rx

/- The two answers are one; what writes over a ledger. -/
set_option linter.unusedVariables false
set_option linter.unusedSimpArgs false
namespace Go.Rx
theorem keys_apart {g : Ledger} (h : entriesB g = true) {i j : Nat} (hj : j < g.entries.length) (hij : i < j) : ¬ (g.entries[i]).key = (g.entries[j]).key := by
  have h1 := rng_at h hj
  rw [entryAt, List.getElem?_eq_getElem hj] at h1
  simp only [Bool.and_eq_true, Bool.not_eq_true'] at h1
  have h2 := List.any_eq_false.1 h1.2.2.1 g.entries[i] (by
    refine List.mem_of_getElem? (i := i) ?_
    rw [List.getElem?_take_of_lt hij, List.getElem?_eq_getElem (by omega)])
  intro e
  exact h2 (by simpa using e)
theorem done_any {g : Ledger} (h : entriesB g = true) (k : Int) : (g.entries.any fun e => e.key == k && !e.back) = doneB g.entries k := by
  rw [doneB]
  cases hf : g.entries.find? (fun e => e.key == k) with
  | none =>
    simp only
    refine List.any_eq_false.2 fun e he => ?_
    have := List.find?_eq_none.1 hf e he
    simp only [Bool.and_eq_true, not_and]
    intro h2
    exact absurd h2 this
  | some e =>
    simp only
    have he := List.mem_of_find?_eq_some hf
    have hk : e.key = k := by have := List.find?_some hf; simpa using this
    cases hb : e.back with
    | false => exact List.any_eq_true.2 ⟨e, he, by rw [hb]; simp [hk]⟩
    | true =>
      refine List.any_eq_false.2 fun x hx => ?_
      simp only [Bool.and_eq_true, Bool.not_eq_true', beq_iff_eq, not_and, Bool.not_eq_false]
      intro hxk
      obtain ⟨i, hi, rfl⟩ := List.getElem_of_mem he
      obtain ⟨j, hj, rfl⟩ := List.getElem_of_mem hx
      rcases Nat.lt_trichotomy i j with h1 | h1 | h1
      · exact absurd (hk.trans hxk.symm) (keys_apart h hj h1)
      · subst h1; exact hb
      · exact absurd (hxk.trans hk.symm) (keys_apart h hi h1)
theorem out_cases {out : Int} (h : outB out = true) : out = 0 ∨ out = 1 ∨ out = 2 ∨ out = 3 := by
  rw [outB] at h
  simp only [Bool.and_eq_true, decide_eq_true_eq] at h
  omega
theorem do_hap {g : Ledger} {k of' : Int} {back no : Bool} {op who : ByteArray} {n out : Int} (ho : outB out = true) (hno : no = !(isB g.entries of' back)) : doL g ⟨k, back, op, who, n⟩ no out = hapL g k of' back op who n out := by
  have hc := out_cases ho
  rw [doL, hapL]
  by_cases h1 : g.known.contains k = true
  · rw [if_pos h1, if_pos h1]
    rcases hc with rfl | rfl | rfl | rfl <;> rfl
  · rw [if_neg h1, if_neg h1]
    by_cases h2 : out = 1 ∨ out = 2
    · rw [if_pos h2, if_pos h2]
    · rw [if_neg h2, if_neg h2]
      by_cases h3 : 200 ≤ g.entries.length ∨ 400 ≤ g.known.length
      · rw [if_pos h3, if_pos h3]
      · rw [if_neg h3, if_neg h3, hno]
        have e1 : ansL out = ansH out := by
          rcases hc with rfl | rfl | rfl | rfl
          · rfl
          · exact absurd (.inl rfl) h2
          · exact absurd (.inr rfl) h2
          · rfl
        rw [e1]
        cases isB g.entries of' back <;> rfl
theorem ask_parts {g : Ledger} {k : Int} {op who : ByteArray} {n out : Int} (h : askB g k op who n out = true) : ledgerB g = true ∧ outB out = true := by
  rw [askB, Bool.and_eq_true, Bool.and_eq_true] at h
  exact ⟨h.1, h.2.2⟩
theorem call_hap {g : Ledger} {k of' : Int} {op who : ByteArray} {n out : Int} (h : askB g k op who n out = true) : callL g k op who n out = hapL g k of' false op who n out := by
  rw [callL, if_pos h]
  exact do_hap (ask_parts h).2 (by simp [isB])
theorem undo_hap {g : Ledger} {k of' : Int} {op who : ByteArray} {n out : Int} (h : askB g k op who n out = true) (ho : 1 ≤ of' ∧ of' ≤ 1073741824) : undoL g k of' op who n out = hapL g k of' true op who n out := by
  rw [undoL, if_pos ⟨h, ho⟩]
  have hp := ask_parts h
  refine do_hap hp.2 ?_
  rw [isB, ← done_any (ledger_parts hp.1).2.2.2.1]
  simp
theorem hap_ok {g : Ledger} (h : g.Ok) (hb : ledgerB g = true) {k of' : Int} {back : Bool} {op who : ByteArray} {n out : Int} (ho : okS op) (hw : okS who) : (hapL g k of' back op who n out).1.Ok := by
  have hp := ledger_parts hb
  have hz : zL.Ok := ⟨by decide, by decide, fun e he => by cases he⟩
  rw [hapL]
  split
  · exact h
  split
  · exact h
  split
  · exact hz
  · refine ⟨?_, ?_, ?_⟩
    · show (if isB g.entries of' back = true then _ else _ : List Entry).length * 56 ≤ _
      split
      · rw [List.length_append]; simp; omega
      · omega
    · show (insL g.known _ k).length * 8 ≤ _
      rw [ins_len (posL_le _ _)]; omega
    · intro e he
      replace he : e ∈ (if isB g.entries of' back = true then g.entries ++ [⟨k, back, op, who, n⟩] else g.entries : List Entry) := he
      split at he
      · rw [List.mem_append, List.mem_singleton] at he
        rcases he with he | rfl
        · exact h.each e he
        · exact ⟨ho, hw⟩
      · exact h.each e he
def spoiltE : Entry := ⟨-9, false, ⟨#[]⟩, ⟨#[]⟩, 0⟩
theorem set_next' {α β : Type} {e : α → β} {x : β} {l : List α} {k : Nat} (h : k < l.length) : ((l.take k).map (fun _ => x) ++ (l.drop k).map e).set (k : Int).toNat x = (l.take (k + 1)).map (fun _ => x) ++ (l.drop (k + 1)).map e := by
  have h1 : ((l.take k).map (fun _ => x)).length = k := by rw [List.length_map, List.length_take]; omega
  rw [Int.toNat_natCast, List.set_append_right _ _ (by omega), h1, Nat.sub_self, List.drop_eq_getElem_cons h, List.take_succ_eq_append_getElem h, List.map_append, List.map_cons, List.set_cons_zero, List.append_assoc]
  rfl
end Go.Rx
namespace Go.Proofs.YtlkbokedadngfaaGreatDoor.Rx
open Go.Rx Go.Proofs Go.Proofs.YtlkbokedadngfaaGreatDoor.RxH

end Go.Proofs.YtlkbokedadngfaaGreatDoor.Rx

/- An act on both. -/
set_option linter.unusedVariables false
set_option linter.unusedSimpArgs false
namespace Go.Rx
structure LAct where
  kind : Int
  key : Int
  of' : Int
  op : Int
  n : Int
  out : Int
  who : ByteArray
abbrev LAct.enc (a : LAct) : List PV := [pI a.kind, pI a.key, pI a.of', pI a.op, pI a.n, pI a.out, pS a.who]
abbrev encAct (a : LAct) : AV := .agg [.pv (pI a.kind), .pv (pI a.key), .pv (pI a.of'), .pv (pI a.op), .pv (pI a.n), .pv (pI a.out), .pv (pS a.who)]
abbrev actV (a : LAct) : Blk := .var [.pv (pI a.kind), .pv (pI a.key), .pv (pI a.of'), .pv (pI a.op), .pv (pI a.n), .pv (pI a.out), .pv (pS a.who)]
def pay : ByteArray := ⟨#[112, 97, 121]⟩
def ixO (a : LAct) : Int := within a.op 9 / 4
def opOf (g : Ledger) (a : LAct) : ByteArray := if svB g.service then ((opsS g.service ++ [pay])[(ixO a).toNat]?).getD ⟨#[]⟩ else ⟨#[]⟩
theorem opsS_two {n : Int} (h : svB n = true) : (opsS n).length = 2 := by
  have hn : 1 ≤ n ∧ n ≤ 4 := by simpa [svB] using h
  obtain rfl | rfl | rfl | rfl : n = 1 ∨ n = 2 ∨ n = 3 ∨ n = 4 := by omega
  all_goals rfl
theorem opsS_none {n : Int} (h : svB n = false) : opsS n = [] := by
  have hn : ¬ n = 1 ∧ ¬ n = 2 ∧ ¬ n = 3 ∧ ¬ n = 4 := by
    refine ⟨?_, ?_, ?_, ?_⟩ <;> (rintro rfl; cases h)
  rw [opsS, if_neg hn.1, if_neg hn.2.1, if_neg hn.2.2.1, if_neg hn.2.2.2]
theorem ixO_lt (a : LAct) : 0 ≤ ixO a ∧ ixO a < 3 := by
  have := within_lt (i := a.op) (n := 9) (by decide)
  unfold ixO
  omega
theorem opOf_get {g : Ledger} {a : LAct} (h : svB g.service = true) : (opsS g.service ++ [pay])[(ixO a).toNat]? = some (opOf g a) := by
  have h1 := ixO_lt a
  have h2 : (opsS g.service ++ [pay]).length = 3 := by rw [List.length_append, opsS_two h]; rfl
  rw [opOf, if_pos h, List.getElem?_eq_getElem (by omega)]
  rfl
theorem opOf_ok (g : Ledger) (a : LAct) : okS (opOf g a) := by
  have e0 : okS ⟨#[]⟩ := by decide
  cases h : svB g.service with
  | false => rw [opOf, if_neg (by rw [h]; decide)]; exact e0
  | true =>
    have hg := opOf_get (a := a) h
    have hm := List.mem_of_getElem? hg
    generalize opOf g a = x at hm
    have hn : 1 ≤ g.service ∧ g.service ≤ 4 := by simpa [svB] using h
    obtain e | e | e | e : g.service = 1 ∨ g.service = 2 ∨ g.service = 3 ∨ g.service = 4 := by omega
    all_goals
      rw [e] at hm
      simp only [opsS, List.mem_append, List.mem_singleton] at hm
      simp at hm
      rcases hm with (rfl | rfl) | rfl <;> decide
/-- What an act makes: the program's ledger, the answer, the error. -/
def actL (g : Ledger) (a : LAct) : Ledger × Int × Int := if 3 < within a.kind 8 then undoL g a.key a.of' (opOf g a) a.who a.n a.out else callL g a.key (opOf g a) a.who a.n a.out
def stepLD (g : Ledger) (a : LAct) : Ledger := if within a.kind 8 = 6 ∨ within a.kind 8 = 7 then g else if (actL g a).2.2 = 0 then (actL g a).1 else g
theorem zL_ok : zL.Ok := ⟨by decide, by decide, fun e he => by cases he⟩
theorem call_ok {g : Ledger} (h : g.Ok) {k : Int} {op who : ByteArray} {n out : Int} (ho : okS op) (hw : okS who) : (callL g k op who n out).1.Ok := by
  by_cases hc : askB g k op who n out = true
  · rw [call_hap (of' := 0) hc]; exact hap_ok h (ask_parts hc).1 ho hw
  · rw [callL, if_neg hc]; exact zL_ok
theorem undo_ok {g : Ledger} (h : g.Ok) {k of' : Int} {op who : ByteArray} {n out : Int} (ho : okS op) (hw : okS who) : (undoL g k of' op who n out).1.Ok := by
  by_cases hc : askB g k op who n out = true ∧ 1 ≤ of' ∧ of' ≤ 1073741824
  · rw [undo_hap hc.1 hc.2]; exact hap_ok h (ask_parts hc.1).1 ho hw
  · rw [undoL, if_neg hc]; exact zL_ok
theorem step_ok {g : Ledger} (h : g.Ok) {a : LAct} (hw : okS a.who) : (stepLD g a).Ok := by
  rw [stepLD]; split
  · exact h
  split
  · rw [actL]; split
    · exact undo_ok h (opOf_ok g a) hw
    · exact call_ok h (opOf_ok g a) hw
  · exact h
theorem doL_err (g : Ledger) (x : Entry) (no : Bool) (out : Int) : (doL g x no out).2.2 = 0 ∨ (doL g x no out).2.2 = 7 := by
  rw [doL]; repeat' split
  all_goals simp
theorem call_err (g : Ledger) (k : Int) (op who : ByteArray) (n out : Int) : -9223372036854775808 ≤ (callL g k op who n out).2.2 ∧ (callL g k op who n out).2.2 ≤ 9223372036854775807 := by
  rw [callL]; split
  · rcases doL_err g ⟨k, false, op, who, n⟩ false out with h | h <;> omega
  · simp only; omega
theorem undo_err (g : Ledger) (k of' : Int) (op who : ByteArray) (n out : Int) : -9223372036854775808 ≤ (undoL g k of' op who n out).2.2 ∧ (undoL g k of' op who n out).2.2 ≤ 9223372036854775807 := by
  rw [undoL]; split
  · rcases doL_err g ⟨k, true, op, who, n⟩ (!(doneB g.entries of')) out with h | h <;> omega
  · simp only; omega
abbrev ledB (p : Ledger × Bool) : AV := .tup [tLedger p.1, .lf (.pv (pB p.2))]
theorem finLB {g : Ledger} {b : Bool} {q : Ledger × Bool} (h : Fin (g, b) q) : ∃ zs, Fa WkA [encLedger g, Bl b] zs ∧ pack zs = some (ledB q) := by
  refine ⟨_, wk_refl _, ?_⟩
  rw [← h.out]; rfl
end Go.Rx
namespace Go.Proofs.YtlkbokedadngfaaGreatDoor.Rx
open Go.Rx Go.Proofs Go.Proofs.YtlkbokedadngfaaGreatDoor.RxH

abbrev zeroV : Blk := .var [.pv (pI 0), .pv (.sc (.slice none 0 0)), .pv (.sc (.slice none 0 0))]
end Go.Proofs.YtlkbokedadngfaaGreatDoor.Rx

/- How much a script is; that something happens at all. -/
set_option linter.unusedVariables false
set_option linter.unusedSimpArgs false
namespace Go.Rx
structure LScript where
  g : Ledger
  service : Int
  l : List LAct
abbrev encActs (l : List LAct) : PV := .sl 7 (l.map LAct.enc)
abbrev encScript (p : LScript) : AV := .agg [.pv (pI p.g.service), .pv (encEntries p.g.entries), .pv (encInts p.g.known), .pv (pI p.service), .pv (encActs p.l)]
abbrev scriptV (p : LScript) : Blk := .var [.pv (pI p.g.service), .pv (encEntries p.g.entries), .pv (encInts p.g.known), .pv (pI p.service), .pv (encActs p.l)]
structure LScript.Ok (p : LScript) : Prop where
  g : p.g.Ok
  ll : p.l.length * 64 ≤ 140737488351232
  each : ∀ a ∈ p.l, okS a.who
def credit : ByteArray := ⟨#[99, 114, 101, 100, 105, 116]⟩
def wW : ByteArray := ⟨#[119]⟩
def gW0 : Ledger := ⟨1, [], []⟩
def gW1 : Ledger := ⟨1, [⟨5, false, credit, wW, 3⟩], [5]⟩
theorem w0_ok : gW0.Ok := ⟨by decide, by decide, fun e he => by cases he⟩
theorem w1_ok : gW1.Ok := ⟨by decide, by decide, fun e he => by
  have : e = ⟨5, false, credit, wW, 3⟩ := by simpa [gW1] using he
  subst this
  exact ⟨by decide, by decide⟩⟩
theorem wk1 : newP 1 = (gW0, 0) := by kernel_rfl
theorem wk2 : callL gW0 5 credit wW 3 0 = (gW1, 0, 0) := by kernel_rfl
theorem wk3 : callL gW1 5 credit wW 3 0 = (gW1, 0, 0) := by kernel_rfl
end Go.Rx
namespace Go.Proofs.YtlkbokedadngfaaGreatDoor.Rx
open Go.Rx Go.Proofs Go.Proofs.YtlkbokedadngfaaGreatDoor.RxH

end Go.Proofs.YtlkbokedadngfaaGreatDoor.Rx

/- Whatever is called, and undone, each act tells the same. -/
set_option linter.unusedVariables false
set_option linter.unusedSimpArgs false
namespace Go.Proofs.YtlkbokedadngfaaGreatDoor.Rx
open Go.Rx Go.Proofs Go.Proofs.YtlkbokedadngfaaGreatDoor.RxH

end Go.Proofs.YtlkbokedadngfaaGreatDoor.Rx

/- Acts of some kinds, in turn. -/
set_option linter.unusedVariables false
set_option linter.unusedSimpArgs false
namespace Go.Rx
def onlyA (out : Int) (ks : List Int) (a : LAct) (i : Nat) : LAct := ⟨(ks[i % ks.length]?).getD 0, a.key, a.of', a.op, a.n, if 0 ≤ out ∧ i % 2 = 0 then out else a.out, a.who⟩
def onlyL (out : Int) (ks : List Int) (l : List LAct) : List LAct := l.zipIdx.map fun q => onlyA out ks q.1 q.2
def onlyS (p : LScript) (out sv : Int) (ks : List Int) : LScript := ⟨if 0 < sv then ⟨sv, [], []⟩ else p.g, if 0 < sv then IntKind.i64.wrap (sv - 1) else p.service, onlyL out ks p.l⟩
theorem onlyL_len (out : Int) (ks : List Int) (l : List LAct) : (onlyL out ks l).length = l.length := by simp [onlyL]
theorem onlyL_take {out : Int} {ks : List Int} {l : List LAct} {k : Nat} (h : k < l.length) : (onlyL out ks l).take (k + 1) = (onlyL out ks l).take k ++ [onlyA out ks l[k] k] := by
  rw [take_succ' (by rw [onlyL_len]; exact h)]
  simp [onlyL]
theorem onlyS_ok {p : LScript} (h : p.Ok) (out sv : Int) (ks : List Int) : (onlyS p out sv ks).Ok := by
  refine ⟨?_, by show (onlyL out ks p.l).length * 64 ≤ _; rw [onlyL_len]; exact h.ll, fun a ha => ?_⟩
  · show (if 0 < sv then _ else _ : Ledger).Ok
    split
    · exact ⟨by show (0 : Nat) * 56 ≤ _; omega, by show (0 : Nat) * 8 ≤ _; omega, fun e he => by cases he⟩
    · exact h.g
  · replace ha : a ∈ onlyL out ks p.l := ha
    obtain ⟨q, hq, rfl⟩ := List.mem_map.1 ha
    obtain ⟨x, i⟩ := q
    have := List.mem_zipIdx hq
    exact h.each x (by rw [this.2.2]; exact List.getElem_mem _)
end Go.Rx
namespace Go.Proofs.YtlkbokedadngfaaGreatDoor.Rx
open Go.Rx Go.Proofs Go.Proofs.YtlkbokedadngfaaGreatDoor.RxH

abbrev zeroS : Blk := .var [.pv (pI 0), .pv (.sc (.slice none 0 0)), .pv (.sc (.slice none 0 0)), .pv (pI 0), .pv (.sc (.slice none 0 0))]
end Go.Proofs.YtlkbokedadngfaaGreatDoor.Rx

/- A ledger stays one; what a key, once there, stands for. -/
set_option linter.unusedVariables false
set_option linter.unusedSimpArgs false
namespace Go.Rx
theorem pos_cons_lt {a k : Int} {l : List Int} (h : a < k) : posL (a :: l) k = posL l k + 1 := by
  unfold posL; rw [List.takeWhile_cons, if_pos (by simpa using h)]; rfl
theorem pos_cons_ge {a k : Int} {l : List Int} (h : ¬ a < k) : posL (a :: l) k = 0 := by
  unfold posL; rw [List.takeWhile_cons, if_neg (by simpa using h)]; rfl
theorem pos_split {k : Int} : ∀ {l : List Int}, l.Pairwise (· < ·) → l.contains k = false → (∀ a ∈ l.take (posL l k), a < k) ∧ (∀ b ∈ l.drop (posL l k), k < b)
  | [], _, _ => ⟨fun a h => by simp at h, fun a h => by simp at h⟩
  | a :: l, hs, hc => by
    rw [List.pairwise_cons] at hs
    have hne : ¬ k = a := fun e => by subst e; simp at hc
    have hcl : l.contains k = false := by simp at hc ⊢; exact hc.2
    by_cases h : a < k
    · rw [pos_cons_lt h, List.take_succ_cons, List.drop_succ_cons]
      have ih := pos_split hs.2 hcl
      refine ⟨fun x hx => ?_, ih.2⟩
      rcases List.mem_cons.1 hx with rfl | hx
      · exact h
      · exact ih.1 x hx
    · rw [pos_cons_ge h]
      refine ⟨fun x hx => by simp at hx, fun b hb => ?_⟩
      rcases List.mem_cons.1 hb with rfl | hb
      · omega
      · have := hs.1 b hb; omega
theorem known_of {l : List Int} (h1 : ∀ x ∈ l, keyB x = true) (h2 : l.Pairwise (· < ·)) : knownB l = true := by
  refine rng_yes fun j hj => ?_
  rw [knownAt, List.getD_eq_getElem?_getD, List.getElem?_eq_getElem hj, Option.getD_some, h1 _ (List.getElem_mem hj), Bool.true_and]
  rcases Nat.eq_zero_or_pos j with rfl | h
  · rfl
  · rw [List.getD_eq_getElem?_getD, List.getElem?_eq_getElem (show j - 1 < l.length by omega), Option.getD_some]
    have := List.pairwise_iff_getElem.1 h2 (j - 1) j (by omega) hj (by omega)
    simp [this]
theorem ins_known {l : List Int} {k : Int} (h : knownB l = true) (hk : keyB k = true) (hc : l.contains k = false) : knownB (insL l (posL l k) k) = true := by
  have hs := known_sorted h
  have hm : ∀ x ∈ l, keyB x = true := fun x hx => by
    obtain ⟨i, hi, rfl⟩ := List.mem_iff_getElem.1 hx
    exact known_key h hi
  obtain ⟨h1, h2⟩ := pos_split hs hc
  unfold insL
  refine known_of (fun x hx => ?_) ?_
  · rw [List.mem_append, List.mem_cons] at hx
    rcases hx with hx | rfl | hx
    · exact hm x (List.mem_of_mem_take hx)
    · exact hk
    · exact hm x (List.mem_of_mem_drop hx)
  · rw [List.pairwise_append, List.pairwise_cons]
    refine ⟨hs.sublist (List.take_sublist _ _), ⟨h2, hs.sublist (List.drop_sublist _ _)⟩, fun a ha b hb => ?_⟩
    rcases List.mem_cons.1 hb with rfl | hb
    · exact h1 a ha
    · exact Int.lt_trans (h1 a ha) (h2 b hb)
theorem ins_has {l : List Int} {i : Nat} {k y : Int} : (insL l i k).contains y = (l.contains y || y == k) := by
  have : (insL l i k).contains y = ((l.take i ++ l.drop i).contains y || y == k) := by
    unfold insL
    rw [Bool.eq_iff_iff]
    simp only [List.contains_iff_mem, List.mem_append, List.mem_cons, Bool.or_eq_true, beq_iff_eq]
    constructor
    · rintro (h | h | h)
      · exact .inl (.inl h)
      · exact .inr h
      · exact .inl (.inr h)
    · rintro ((h | h) | h)
      · exact .inl h
      · exact .inr (.inr h)
      · exact .inr (.inl h)
  rw [this, List.take_append_drop]
theorem entry_known {g : Ledger} (h : entriesB g = true) {e : Entry} (he : e ∈ g.entries) : g.known.contains e.key = true := by
  obtain ⟨i, hi, rfl⟩ := List.mem_iff_getElem.1 he
  have := rng_at h hi
  rw [entryAt, List.getElem?_eq_getElem hi] at this
  simp only [Bool.and_eq_true] at this
  exact this.2.1
theorem entries_same {g : Ledger} {kn : List Int} (h : entriesB g = true) (hk : ∀ k, g.known.contains k = true → kn.contains k = true) : entriesB ⟨g.service, g.entries, kn⟩ = true := by
  refine rng_yes fun j hj => ?_
  replace hj : j < g.entries.length := hj
  have := rng_at h hj
  rw [entryAt, List.getElem?_eq_getElem hj] at this
  rw [entryAt, show (⟨g.service, g.entries, kn⟩ : Ledger).entries[j]? = some g.entries[j] from List.getElem?_eq_getElem hj]
  simp only [Bool.and_eq_true] at this ⊢
  exact ⟨this.1, hk _ this.2.1, this.2.2⟩
theorem entries_more {g : Ledger} {x : Entry} {kn : List Int} (h : entriesB g = true) (hk : ∀ k, g.known.contains k = true → kn.contains k = true) (hx : keyB x.key = true) (hn : g.known.contains x.key = false) (hc : kn.contains x.key = true)
    (hd : deedB g.service x.op x.who x.n = true) : entriesB ⟨g.service, g.entries ++ [x], kn⟩ = true := by
  refine rng_yes fun j hj => ?_
  replace hj : j < (g.entries ++ [x]).length := hj
  rw [List.length_append, List.length_singleton] at hj
  rcases Nat.lt_or_ge j g.entries.length with hlt | hge
  · have := rng_at h hlt
    rw [entryAt, List.getElem?_eq_getElem hlt] at this
    rw [entryAt, show (⟨g.service, g.entries ++ [x], kn⟩ : Ledger).entries[j]? = some g.entries[j] from by rw [List.getElem?_append_left hlt, List.getElem?_eq_getElem hlt]]
    simp only [Bool.and_eq_true] at this ⊢
    refine ⟨this.1, hk _ this.2.1, ?_, this.2.2.2⟩
    rw [List.take_append_of_le_length (by omega)]
    exact this.2.2.1
  · have hje : j = g.entries.length := by omega
    subst hje
    rw [entryAt, show (⟨g.service, g.entries ++ [x], kn⟩ : Ledger).entries[g.entries.length]? = some x from by rw [List.getElem?_append_right (Nat.le_refl _), Nat.sub_self]; rfl]
    simp only [Bool.and_eq_true, Bool.not_eq_true', List.any_eq_false]
    refine ⟨hx, hc, fun y hy => ?_, hd⟩
    rw [List.take_append_of_le_length (Nat.le_refl _), List.take_length] at hy
    have := entry_known h hy
    simp only [beq_iff_eq]
    intro e
    rw [e, hn] at this
    cases this
structure Did (g : Ledger) (x : Entry) (no : Bool) (d : Ledger × Int × Int) : Prop where
  err : d.2.2 = 0
  may : ledgerB d.1 = true
  sv : d.1.service = g.service
  keep : ∀ k, g.known.contains k = true → d.1.known.contains k = true
  kl : d.1.known.length ≤ g.known.length + 1
  has : d.2.1 = 0 → d.1.known.contains x.key = true
  en : d.1.entries = g.entries ∨ (d.1.entries = g.entries ++ [x] ∧ no = false ∧ g.known.contains x.key = false)
theorem may_of {g : Ledger} (h1 : 1 ≤ g.service ∧ g.service ≤ 4) (h2 : g.known.length ≤ 400) (h3 : knownB g.known = true) (h4 : entriesB g = true) (h5 : g.entries.length ≤ 200) : ledgerB g = true := by
  rw [ledgerB, svB, h3, h4]; simp [h1, h2, h5]
theorem do_did {g : Ledger} {x : Entry} {no : Bool} {out : Int} (hb : ledgerB g = true) (hk : keyB x.key = true) (hd : deedB g.service x.op x.who x.n = true) (he : g.entries.length < 200) (hl : g.known.length < 400) : Did g x no (doL g x no out) := by
  obtain ⟨hsv, _, hkn, hen, _⟩ := ledger_parts hb
  rw [doL]
  by_cases h1 : g.known.contains x.key = true
  · rw [if_pos h1]
    exact ⟨rfl, hb, rfl, fun k h => h, by simp only; omega, fun _ => h1, .inl rfl⟩
  have h1' : g.known.contains x.key = false := by simpa using h1
  rw [if_neg h1]
  by_cases h2 : out = 1 ∨ out = 2
  · rw [if_pos h2]
    exact ⟨rfl, hb, rfl, fun k h => h, by simp only; omega, fun e => by simp only at e; omega, .inl rfl⟩
  rw [if_neg h2, if_neg (by omega)]
  have hkeep : ∀ k, g.known.contains k = true → (insL g.known (posL g.known x.key) x.key).contains k = true := fun k h => by rw [ins_has, h]; rfl
  have hself : (insL g.known (posL g.known x.key) x.key).contains x.key = true := by rw [ins_has]; simp
  have hlen := ins_len (x := x.key) (posL_le g.known x.key)
  cases no with
  | true =>
    refine ⟨rfl, may_of hsv ?_ (ins_known hkn hk h1') (entries_same hen hkeep) ?_, rfl, hkeep, ?_, fun _ => hself, .inl rfl⟩
    · show (insL _ _ _).length ≤ 400; omega
    · show g.entries.length ≤ 200; omega
    · show (insL _ _ _).length ≤ _; omega
  | false =>
    refine ⟨rfl, may_of hsv ?_ (ins_known hkn hk h1') (entries_more hen hkeep hk h1' hself hd) ?_, rfl, hkeep, ?_, fun _ => hself, .inr ⟨rfl, rfl, h1'⟩⟩
    · show (insL _ _ _).length ≤ 400; omega
    · show (g.entries ++ [x]).length ≤ 200; rw [List.length_append, List.length_singleton]; omega
    · show (insL _ _ _).length ≤ _; omega
theorem done_known {g : Ledger} (h : entriesB g = true) {k : Int} (hd : doneB g.entries k = true) : g.known.contains k = true := by
  unfold doneB at hd
  split at hd
  · rename_i e hf
    have hm := List.mem_of_find?_eq_some hf
    have hk := List.find?_some hf
    have := entry_known h hm
    rw [eq_of_beq hk] at this
    exact this
  · cases hd
/-- Entries of one script: whose they are, and which way they go. -/
def Fine (a : ByteArray) (e : Entry) : Prop := e.who = wW ∧ e.n = 1 ∧ (e.back = true → ¬ e.op = a) ∧ (e.back = false → e.op = a)
def cntGo : List Entry → Int → Int
  | [], n => n
  | x :: l, n => cntGo l (if x.back then IntKind.i64.wrap (n - 1) else IntKind.i64.wrap (n + 1))
theorem cnt_go {l : List Entry} {k : Nat} {n : Int} (h : k < l.length) : cntGo (l.drop k) n = cntGo (l.drop (k + 1)) (if (l[k]).back then IntKind.i64.wrap (n - 1) else IntKind.i64.wrap (n + 1)) := by
  rw [List.drop_eq_getElem_cons h, cntGo]
theorem sum_cnt {a : ByteArray} : ∀ {l : List Entry} {n : Int}, (∀ e ∈ l, Fine a e) → sumGo a wW l n = cntGo l n
  | [], n, _ => rfl
  | x :: l, n, h => by
    obtain ⟨h1, h2, h3, h4⟩ := h x (by simp)
    rw [sumGo, cntGo, if_pos h1, h2, sum_cnt fun e he => h e (by simp [he])]
    cases hb : x.back with
    | true => rw [if_neg (h3 hb), if_pos rfl]
    | false => rw [if_pos (h4 hb), if_neg (by decide)]
structure On (sv : Int) (a : ByteArray) (i : Nat) (x : Ledger) : Prop where
  ok : x.Ok
  may : ledgerB x = true
  sv : x.service = sv
  el : x.entries.length ≤ i
  kl : x.known.length ≤ i
  fine : ∀ e ∈ x.entries, Fine a e
theorem On.goes {sv : Int} {a : ByteArray} {i : Nat} {x : Ledger} {y : Entry} {no : Bool} {d : Ledger × Int × Int} (h : On sv a i x) (hy : okS y.op ∧ okS y.who) (hf : Fine a y) (hi : i < 24) (hd : Did x y no d) : On sv a (i + 1) d.1 := by
  have hel := h.el
  have hkl := h.kl
  have hk := hd.kl
  rcases hd.en with he | ⟨he, _, _⟩
  · exact ⟨⟨by rw [he]; exact h.ok.el, by omega, fun e hm => h.ok.each e (he ▸ hm)⟩, hd.may, hd.sv.trans h.sv, by rw [he]; omega, by omega, fun e hm => h.fine e (he ▸ hm)⟩
  · have hl : d.1.entries.length = x.entries.length + 1 := by rw [he]; simp
    refine ⟨⟨by omega, by omega, fun e hm => ?_⟩, hd.may, hd.sv.trans h.sv, by omega, by omega, fun e hm => ?_⟩
    · rw [he, List.mem_append, List.mem_singleton] at hm
      rcases hm with hm | rfl
      · exact h.ok.each e hm
      · exact ⟨hy.1, hy.2⟩
    · rw [he, List.mem_append, List.mem_singleton] at hm
      rcases hm with hm | rfl
      · exact h.fine e hm
      · exact hf
end Go.Rx
namespace Go.Proofs.YtlkbokedadngfaaGreatDoor.Rx
open Go.Rx Go.Proofs Go.Proofs.YtlkbokedadngfaaGreatDoor.RxH

end Go.Proofs.YtlkbokedadngfaaGreatDoor.Rx

/- Worlds that may be: what holds of each, and how a step keeps it. -/
set_option linter.unusedVariables false
set_option linter.unusedSimpArgs false
namespace Go.Rx
theorem file_ok {f : FileS} (h : fileB f = true) : f.Ok := by
  have := fileB_iff.1 h
  exact ⟨by show f.safe.size ≤ _; omega, by show f.tail.size ≤ _; omega⟩
theorem recB_ok {r : Rec} (h : recB r = true) : r.Ok := by
  have hs := small_of h
  have h1 := hs.key
  have h2 := hs.body
  have h3 := hs.len
  exact ⟨by show r.key.size ≤ _; omega, by show r.body.size ≤ _; omega, by omega, fun x hx => by
    have := hs.st x hx
    exact ⟨by show x.nm.size ≤ _; omega, by show x.op.size ≤ _; omega, by show x.undo.size ≤ _; omega, by show x.who.size ≤ _; omega⟩⟩
theorem sagaB_ok {s : Saga} (h : sagaB s = true) : s.Ok := by
  have := recB_ok (parts_iff.1 h).rc
  exact ⟨this.key, this.body, this.steps⟩
theorem entry_deed {g : Ledger} (h : entriesB g = true) {e : Entry} (he : e ∈ g.entries) : deedB g.service e.op e.who e.n = true := by
  obtain ⟨i, hi, rfl⟩ := List.mem_iff_getElem.1 he
  have := rng_at h hi
  rw [entryAt, List.getElem?_eq_getElem hi] at this
  simp only [Bool.and_eq_true] at this
  exact this.2.2.2
theorem ledgerB_ok {g : Ledger} (h : ledgerB g = true) : g.Ok := by
  obtain ⟨_, h2, _, h4, h5⟩ := ledger_parts h
  refine ⟨by omega, by omega, fun e he => ?_⟩
  have hd := entry_deed h4 he
  simp only [deedB, Bool.and_eq_true, shortB, decide_eq_true_eq] at hd
  have := ops_small hd.1
  exact ⟨by show e.op.size ≤ _; omega, by show e.who.size ≤ _; omega⟩
structure LInv (v : Live) (tb : Int) : Prop where
  t0 : 0 ≤ v.tries
  t1 : v.tries ≤ tb
  d0 : 0 ≤ v.due
  d1 : v.due ≤ 1073741832
  wr : (v.write = zRec ∧ v.put = false) ∨ (¬ v.write.kind = 1 ∧ recB v.write = true ∧ fitsL v = true)
structure WInv (w : Wd) (tb : Int) : Prop where
  c0 : 0 ≤ w.clock
  c1 : w.clock ≤ 1073741824
  k0 : 0 ≤ w.taken
  k1 : w.taken ≤ tb
  ol : w.outs.length ≤ 400
  ob : w.outs.any outBad = false
  file : fileB w.file = true
  ledgers : ledgersB w.ledgers = true
  tog : togB (sagasL w.lives) = true
  lives : ∀ v ∈ w.lives, LInv v tb
theorem LInv.mono {v : Live} {a b : Int} (h : LInv v a) (hab : a ≤ b) : LInv v b := ⟨h.t0, Int.le_trans h.t1 hab, h.d0, h.d1, h.wr⟩
theorem WInv.mono {w : Wd} {a b : Int} (h : WInv w a) (hab : a ≤ b) : WInv w b := ⟨h.c0, h.c1, h.k0, Int.le_trans h.k1 hab, h.ol, h.ob, h.file, h.ledgers, h.tog, fun v hv => (h.lives v hv).mono hab⟩
theorem nothing_iff {r : Rec} : nothingB r = true ↔ r = zRec := by
  obtain ⟨k, i, n, key, body, steps⟩ := r
  unfold nothingB zRec
  simp only [Bool.and_eq_true, beq_iff_eq, Rec.mk.injEq]
  constructor
  · rintro ⟨h1, h2, h3, h4, h5, h6⟩
    exact ⟨h1, h2, h3, h4, h5, List.eq_nil_of_length_eq_zero (by omega)⟩
  · rintro ⟨h1, h2, h3, h4, h5, h6⟩
    exact ⟨h1, h2, h3, h4, h5, by rw [h6]; rfl⟩
theorem rec_kind {r : Rec} (h : recB r = true) : 1 ≤ r.kind ∧ r.kind ≤ 6 := by
  unfold recB at h
  rw [Bool.and_eq_true] at h
  by_cases k : r.kind = 1
  · omega
  · have h2 := h.2
    rw [if_neg k, Bool.and_eq_true] at h2
    have h3 := h2.2
    unfold kindB at h3
    split at h3
    · omega
    split at h3
    · omega
    split at h3
    · omega
    · cases h3
theorem LInv.zero {v : Live} {tb : Int} (h : LInv v tb) : v.write.kind = 0 ↔ v.write = zRec := by
  constructor
  · intro e
    rcases h.wr with h1 | h1
    · exact h1.1
    · have := rec_kind h1.2.1; omega
  · intro e; rw [e]; rfl
theorem liveB_iff {v : Live} : liveB v = true ↔ LInv v 1073741824 := by
  unfold liveB
  constructor
  · intro h
    split at h
    · cases h
    rename_i h1
    simp only [Bool.or_eq_true, decide_eq_true_eq, not_or, Int.not_lt] at h1
    split at h
    · rename_i h2
      exact ⟨h1.1, h1.2.1, h1.2.2.1, h1.2.2.2, .inl ⟨nothing_iff.1 h2, by simpa using h⟩⟩
    · simp only [Bool.and_eq_true, bne_iff_ne] at h
      exact ⟨h1.1, h1.2.1, h1.2.2.1, h1.2.2.2, .inr ⟨h.1, h.2.1, h.2.2⟩⟩
  · intro h
    have h0 := h.t0
    have h1 := h.t1
    have h2 := h.d0
    have h3 := h.d1
    rw [if_neg (by simp; omega)]
    rcases h.wr with ⟨e1, e2⟩ | ⟨e1, e2, e3⟩
    · rw [if_pos (nothing_iff.2 e1), e2]; rfl
    · have hk := rec_kind e2
      have hn : ¬ nothingB v.write = true := fun e => by
        rw [nothing_iff.1 e] at hk
        have : (zRec).kind = 0 := rfl
        omega
      rw [if_neg hn, e2, e3]
      simp [e1]
theorem worldB_iff {w : Wd} : worldB w = true ↔ WInv w 1073741824 := by
  unfold worldB
  constructor
  · intro h
    split at h
    · cases h
    rename_i h1
    simp only [Bool.or_eq_true, decide_eq_true_eq, not_or, Int.not_lt, Bool.not_eq_true] at h1
    split at h
    · cases h
    rename_i h2
    simp only [Bool.or_eq_true, Bool.not_eq_true', not_or, Bool.not_eq_false] at h2
    simp only [Bool.not_eq_true', List.any_eq_false, Bool.not_eq_false] at h
    exact ⟨h1.1, h1.2.1, h1.2.2.1, h1.2.2.2.1, by omega, h1.2.2.2.2.2, h2.1, h2.2.1, h2.2.2, fun v hv => liveB_iff.1 (h v hv)⟩
  · intro h
    have h0 := h.c0
    have h1 := h.c1
    have h2 := h.k0
    have h3 := h.k1
    have h4 := h.ol
    rw [if_neg (by rw [h.ob]; simp; omega), if_neg (by rw [h.file, h.ledgers, h.tog]; decide)]
    simp only [Bool.not_eq_true', List.any_eq_false, Bool.not_eq_false]
    exact fun v hv => liveB_iff.2 (h.lives v hv)
theorem ledgersGo_iff : ∀ {l : List Ledger} {k : Nat}, ledgersGo l k = true ↔ ∀ (i : Nat) (g : Ledger), l[i]? = some g → g.service = ((k + i + 1 : Nat) : Int) ∧ ledgerB g = true
  | [], k => by simp [ledgersGo]
  | g :: l, k => by
    rw [ledgersGo, Bool.and_eq_true, Bool.and_eq_true, ledgersGo_iff, beq_iff_eq]
    constructor
    · rintro ⟨h1, h2⟩ i x hx
      cases i with
      | zero => simp at hx; subst hx; exact h1
      | succ i =>
        have := h2 i x (by simpa using hx)
        rw [show k + (i + 1) + 1 = k + 1 + i + 1 by omega]
        exact this
    · intro h
      refine ⟨h 0 g rfl, fun i x hx => ?_⟩
      have := h (i + 1) x (by simpa using hx)
      rw [show k + (i + 1) + 1 = k + 1 + i + 1 by omega] at this
      exact this
structure LedsInv (l : List Ledger) : Prop where
  len : l.length = 4
  at' : ∀ (i : Nat) (g : Ledger), l[i]? = some g → g.service = ((i + 1 : Nat) : Int) ∧ ledgerB g = true
theorem ledgersB_iff {l : List Ledger} : ledgersB l = true ↔ LedsInv l := by
  rw [ledgersB, Bool.and_eq_true, ledgersGo_iff, beq_iff_eq]
  constructor
  · rintro ⟨h1, h2⟩
    exact ⟨by omega, fun i g hg => by have := h1 i g hg; rw [Nat.zero_add] at this; exact this⟩
  · rintro ⟨h1, h2⟩
    exact ⟨fun i g hg => by rw [Nat.zero_add]; exact h2 i g hg, by omega⟩
theorem WInv.saga {w : Wd} {tb : Int} (h : WInv w tb) {v : Live} (hv : v ∈ w.lives) : sagaB v.saga = true := tog_saga h.tog hv
theorem WInv.len {w : Wd} {tb : Int} (h : WInv w tb) : w.lives.length ≤ 20 := by
  have := h.tog
  rw [togB, Bool.and_eq_true, decide_eq_true_eq, sagasL, List.length_map] at this
  exact this.2
theorem zRec_ok : zRec.Ok := ⟨by show (0 : Nat) ≤ _; omega, by show (0 : Nat) ≤ _; omega, by show (0 : Nat) * 80 ≤ _; omega, fun x hx => by cases hx⟩
theorem LInv.wok {v : Live} {tb : Int} (h : LInv v tb) : v.write.Ok := by
  rcases h.wr with h1 | h1
  · rw [h1.1]; exact zRec_ok
  · exact recB_ok h1.2.1
theorem WInv.wok {w : Wd} {tb : Int} (h : WInv w tb) : w.Ok := by
  have h1 := ledgersB_iff.1 h.ledgers
  have h2 := h.len
  have h3 := h.ol
  have h4 := h1.len
  refine ⟨file_ok h.file, by omega, by omega, by omega, fun g hg => ?_, fun v hv => ⟨sagaB_ok (h.saga hv), (h.lives v hv).wok⟩⟩
  obtain ⟨i, hi, e⟩ := List.mem_iff_getElem.1 hg
  exact ledgerB_ok (h1.at' i g (by rw [← e]; exact List.getElem?_eq_getElem hi)).2
theorem sv_of {n : Int} {d : ByteArray} (h : (opsS n).any (d == ·) = true) : 1 ≤ n ∧ n ≤ 4 := by
  unfold opsS at h
  split at h
  · omega
  split at h
  · omega
  split at h
  · omega
  split at h
  · omega
  · cases h
/-- A step of a saga that may be. -/
theorem step_may {s : Saga} (h : sagaB s = true) {i : Nat} (hi : i < s.steps.length) : okStep s.steps[i] = true := by
  have h1 := (parts_iff.1 h).rc
  rw [recB, Bool.and_eq_true, if_pos rfl, begB] at h1
  simp only [Bool.and_eq_true, stepsB] at h1
  have h2 := List.all_eq_true.1 h1.2.2.2.2.2.2.1 i (List.mem_range.2 hi)
  have h3 := (Bool.and_eq_true _ _ ▸ (okAt_eq hi ▸ h2 : (okStep s.steps[i] && _) = true))
  exact h3.1
structure StepIn (s : Saga) (i : Nat) : Prop where
  lt : i < s.steps.length
  at' : stepI s = i
  i5 : i < 5
theorem call_at {s : Saga} (h : sagaB s = true) (hst : s.status = 0) (h1 : (!s.back && (s.done == (s.steps.length : Int))) = false) (h2 : (s.back && (s.left == 0)) = false) (h3 : (!s.back && !s.out) = false) : ∃ i, StepIn s i := by
  have hp := parts_iff.1 h
  have hl := parts_len hp
  have p0 := hp.d0
  have p1 := hp.d1
  have p2 := hp.l0
  have p3 := hp.l1
  have p4 := hp.ou
  have hm := most_le hp
  unfold mostI at p3 hm
  cases hb : s.back with
  | false =>
    rw [hb] at h1
    have h1' : ¬ s.done = s.steps.length := by simpa using h1
    exact ⟨s.done.toNat, by omega, by rw [stepI, hb, if_neg (by decide)]; omega, by omega⟩
  | true =>
    rw [hb] at h2
    have h2' : ¬ s.left = 0 := by simpa using h2
    have hlt : (s.left - 1).toNat < s.steps.length := by
      split at p3
      · rename_i ho
        have := p4 ho
        omega
      · omega
    exact ⟨(s.left - 1).toNat, hlt, by rw [stepI, hb, if_pos rfl, wrapI (by omega)]; omega, by omega⟩
end Go.Rx

/- A step keeps a world such as it may be. -/
set_option linter.unusedVariables false
set_option linter.unusedSimpArgs false
namespace Go.Rx
theorem longGo_le : ∀ (k : Nat) (n : Int), 0 ≤ n → n ≤ 8 → 0 ≤ longGo k n ∧ longGo k n ≤ 8
  | 0, n, h0, h1 => ⟨h0, h1⟩
  | k + 1, n, h0, h1 => by
    rw [longGo, wrapI (n := 2 * n) (by omega)]
    refine longGo_le k _ ?_ ?_ <;> split <;> omega
theorem long_le (t : Int) : 0 ≤ longI t ∧ longI t ≤ 8 := longGo_le _ 1 (by omega) (by omega)
theorem step_pair {s : Saga} (h : sagaB s = true) {i : Nat} (hi : i < s.steps.length) : ((opsS s.steps[i].service).any (s.steps[i].op == ·) = true ∧ (opsS s.steps[i].service).any (s.steps[i].undo == ·) = true ∧ s.steps[i].op ≠ s.steps[i].undo) ∧ shortB s.steps[i].who = true ∧ -1073741824 ≤ s.steps[i].n ∧ s.steps[i].n ≤ 1073741824 := by
  have h1 := step_may h hi
  simp only [okStep, pairB, numB, Bool.and_eq_true, Bool.not_eq_true', beq_eq_false_iff_ne, decide_eq_true_eq] at h1
  exact ⟨⟨h1.1.1.2.1.1, h1.1.1.2.1.2, h1.1.1.2.2⟩, h1.1.2, h1.2⟩
theorem WInv.call {w : Wd} {tb : Int} (h : WInv w tb) {s : Saga} (hs : sagaB s = true) {i : Nat} (hi : StepIn s i) : CallOk w s := by
  have hg := ledgersB_iff.1 h.ledgers
  have hp := parts_iff.1 hs
  have hm := most_le hp
  have p2 := hp.l0
  have p3 := hp.l1
  have hol := h.ol
  have hlt := hi.lt
  have hat := hi.at'
  have hst : stepAt s = s.steps[i] := by
    rw [stepAt, hat]
    simp [hlt]
  have hpr := step_pair hs hlt
  have hok := h.wok.ledgers
  refine ⟨h.k0, by omega, fun _ => by omega, by omega, by omega, hg.len, by rw [hst]; exact sv_of hpr.1.1, hok, fun g hm => ?_⟩
  obtain ⟨j, hj, e⟩ := List.mem_iff_getElem.1 hm
  have hb := (hg.at' j g (by rw [← e]; exact List.getElem?_eq_getElem hj)).2
  exact known_sorted (ledger_parts hb).2.2.1
theorem WInv.move {w : Wd} {tb : Int} (h : WInv w tb) (ht : tb ≤ 4611686018427387903) {v : Live} (hv : v ∈ w.lives) (hd : dueB w.clock v = true) : MoveOk w v := by
  have hl := h.lives v hv
  have hs := h.saga hv
  have ht0 := hl.t0
  have ht1 := hl.t1
  have hst : v.saga.status = 0 := by rw [dueB, Bool.and_eq_true] at hd; exact eq_of_beq hd.1
  refine ⟨file_ok h.file, ⟨sagaB_ok hs, hl.wok⟩, by omega, fun _ h1 h2 h3 => ?_⟩
  obtain ⟨i, hi⟩ := call_at hs hst h1 h2 h3
  exact h.call hs hi
/-! ### What a step leaves -/
theorem app_file {f : FileS} {r : Rec} (h : (jappP f r).2 = 0) : fileB (jappP f r).1 = true := by
  obtain ⟨h1, h2, h3, h4⟩ := japp_ok h
  have := fileB_iff.1 h1
  rw [h3]
  exact fileB_iff.2 ⟨this.1, this.2.1, by show (f.safe.size : Int) + ((f.tail ++ frR r).size : Int) ≤ f.cap; rw [ByteArray.size_append]; omega⟩
theorem sync_file {f : FileS} (h : fileB f = true) : (crashP f f.tail.size).1 = ⟨f.safe ++ f.tail, ⟨#[]⟩, f.cap⟩ := by
  rw [crashP, if_pos h, crashF]
  have e : keepI f f.tail.size = f.tail.size := by unfold keepI; omega
  rw [e]
  have : f.tail.extract 0 f.tail.size = f.tail := ba_ext (by rw [ba_ex, List.drop_zero, Nat.sub_zero, List.take_of_length_le (by rw [ba_len]; exact Nat.le_refl _)])
  rw [this]
theorem sync_may {f : FileS} (h : fileB f = true) : fileB (crashP f f.tail.size).1 = true := by
  rw [sync_file h]
  have := fileB_iff.1 h
  exact fileB_iff.2 ⟨this.1, this.2.1, by show ((f.safe ++ f.tail).size : Int) + ((0 : Nat) : Int) ≤ f.cap; rw [ByteArray.size_append]; omega⟩
theorem tog_set {l : List Saga} {i : Nat} {s x : Saga} (h : togB l = true) (hi : l[i]? = some s) (hx : sagaB x = true) (hid : x.id = s.id) (hk : x.key = s.key) : togB (l.set i x) = true := by
  have hil := (List.getElem?_eq_some_iff.1 hi).1
  have hok : ∀ s ∈ l, s.Ok := fun s hs => by
    rw [togB, Bool.and_eq_true] at h
    obtain ⟨j, hj, e⟩ := List.mem_iff_getElem.1 hs
    have := List.all_eq_true.1 h.1 j (List.mem_range.2 hj)
    rw [togAt_eq hj, Bool.and_eq_true] at this
    rw [← e]
    exact sagaB_ok this.1
  have hs := sgs_tog hok h
  refine tog_sgs ⟨by rw [List.length_set]; exact hs.len, fun j y hy => ?_⟩
  have hjl := (List.getElem?_eq_some_iff.1 hy).1
  rw [List.length_set] at hjl
  -- the key at each place is as it was
  have hkey : ∀ (j : Nat) (y : Saga), (l.set i x)[j]? = some y → ∃ z, l[j]? = some z ∧ y.key = z.key ∧ y.id = z.id := fun j y hy => by
    by_cases e : j = i
    · subst e
      rw [List.getElem?_set_self hil] at hy
      cases hy
      exact ⟨s, hi, hk, hid⟩
    · rw [List.getElem?_set_ne (Ne.symm e)] at hy
      exact ⟨y, hy, rfl, rfl⟩
  obtain ⟨z, hz, e1, e2⟩ := hkey j y hy
  have hat := hs.sg j z hz
  have hyB : sagaB y = true := by
    by_cases e : j = i
    · subst e
      rw [List.getElem?_set_self hil] at hy
      cases hy
      exact hx
    · rw [List.getElem?_set_ne (Ne.symm e)] at hy
      rw [hz] at hy
      cases hy
      exact hat.may
  refine ⟨sagaB_ok hyB, hyB, by rw [e2]; exact hat.id, fun k u hku hu => ?_⟩
  obtain ⟨z', hz', e3, _⟩ := hkey k u hu
  rw [e3, e1]
  exact hat.key k z' hku hz'
theorem do_may {g : Ledger} {x : Entry} {no : Bool} {out : Int} (hb : ledgerB g = true) (hk : keyB x.key = true) (hd : deedB g.service x.op x.who x.n = true) (h : (doL g x no out).2.2 = 0) : ledgerB (doL g x no out).1 = true ∧ (doL g x no out).1.service = g.service := by
  by_cases h1 : g.known.contains x.key = true
  · rw [doL, if_pos h1]; exact ⟨hb, rfl⟩
  by_cases h2 : out = 1 ∨ out = 2
  · rw [doL, if_neg h1, if_pos h2]; exact ⟨hb, rfl⟩
  by_cases h3 : 200 ≤ g.entries.length ∨ 400 ≤ g.known.length
  · rw [doL, if_neg h1, if_neg h2, if_pos h3] at h; cases h
  have := do_did (no := no) (out := out) hb hk hd (by omega) (by omega)
  exact ⟨this.may, this.sv⟩
theorem mem_set_cases {α : Type} {l : List α} {i : Nat} {a x : α} (h : x ∈ l.set i a) : x = a ∨ x ∈ l := by
  rcases List.mem_or_eq_of_mem_set h with h | h
  · exact .inr h
  · exact .inl h
theorem sagas_set (l : List Live) (i : Nat) (v : Live) : sagasL (l.set i v) = (sagasL l).set i v.saga := by rw [sagasL, sagasL, List.map_set]
theorem sagas_at {l : List Live} {i : Nat} {v : Live} (h : l[i]? = some v) : (sagasL l)[i]? = some v.saga := by rw [sagasL, List.getElem?_map, h]; rfl
theorem set_saga {l : List Live} {i : Nat} {v x : Live} (h : l[i]? = some v) (hx : x.saga = v.saga) : sagasL (l.set i x) = sagasL l := by
  rw [sagas_set, hx]
  exact set_same (sagas_at h)
/-- The record that is written next fits. -/
theorem rec_fits {s : Saga} {k n : Int} (hid : 1 ≤ s.id ∧ s.id ≤ 20) (hst : s.status = 0) (hk : ¬ k = 1) (hn : kindB k n = true) (hf : fitsB s ⟨k, s.id, n, ⟨#[]⟩, ⟨#[]⟩, []⟩ = true) :
    recB ⟨k, s.id, n, ⟨#[]⟩, ⟨#[]⟩, []⟩ = true ∧ (((⟨k, s.id, n, ⟨#[]⟩, ⟨#[]⟩, []⟩ : Rec).id == s.id) && (s.status == 0 && fitsB s ⟨k, s.id, n, ⟨#[]⟩, ⟨#[]⟩, []⟩)) = true :=
  ⟨recK_may hid hk hn, by rw [hf, hst]; simp⟩
theorem answered_inv {w : Wd} {tb : Int} {v : Live} (hs : sagaB v.saga = true) (hl : LInv v tb) (ht : tb ≤ 4611686018427387902) (hst : v.saga.status = 0) (hw : v.write = zRec) {i : Nat} (hi : StepIn v.saga i)
    (h1 : (!v.saga.back && (v.saga.done == (v.saga.steps.length : Int))) = false) (h2 : (v.saga.back && (v.saga.left == 0)) = false) (h3 : (!v.saga.back && !v.saga.out) = false) (hc : 0 ≤ w.clock ∧ w.clock ≤ 1073741824) (a : Int) :
    LInv (if (answeredL w.clock v a).2.2 then { (answeredL w.clock v a).1 with write := (answeredL w.clock v a).2.1 } else (answeredL w.clock v a).1) (tb + 1) ∧ (answeredL w.clock v a).1.saga = v.saga := by
  have hp := parts_iff.1 hs
  have hl4 := parts_len hp
  have hid : 1 ≤ v.saga.id ∧ v.saga.id ≤ 20 := ⟨hl4.2.2.1, hl4.2.2.2⟩
  have t0 := hl.t0
  have t1 := hl.t1
  have d0 := hl.d0
  have d1 := hl.d1
  have p0 := hp.d0
  have p1 := hp.d1
  have p2 := hp.l0
  have p3 := hp.l1
  have hmm := most_le hp
  have hi5 := hi.i5
  have hat := hi.at'
  have hput : v.put = false := by
    rcases hl.wr with h | h
    · exact h.2
    · rw [hw] at h; exact absurd (rec_kind h.2.1) (by show ¬ (1 ≤ (0 : Int) ∧ _); omega)
  have hwt : IntKind.i64.wrap (v.tries + 1) = v.tries + 1 := wrapI (by omega)
  have hlong := long_le (IntKind.i64.wrap (v.tries + 1))
  have hdue : IntKind.i64.wrap (w.clock + longI (IntKind.i64.wrap (v.tries + 1))) = w.clock + longI (IntKind.i64.wrap (v.tries + 1)) := wrapI (by omega)
  have mk : ∀ (u : Live) (k n : Int), u.saga = v.saga → 0 ≤ u.tries → u.tries ≤ tb + 1 → 0 ≤ u.due → u.due ≤ 1073741832 → ¬ k = 1 → kindB k n = true → fitsB v.saga ⟨k, v.saga.id, n, ⟨#[]⟩, ⟨#[]⟩, []⟩ = true →
      LInv { u with write := ⟨k, v.saga.id, n, ⟨#[]⟩, ⟨#[]⟩, []⟩ } (tb + 1) := fun u k n e b0 b1 b2 b3 hk hn hf => by
    obtain ⟨r1, r2⟩ := rec_fits hid hst hk hn hf
    refine ⟨b0, b1, b2, b3, .inr ⟨hk, r1, ?_⟩⟩
    show ((_ : Int) == u.saga.id && (u.saga.status == 0 && fitsB u.saga _)) = true
    rw [e]
    exact r2
  unfold answeredL
  simp only
  by_cases ha : a = 2
  · rw [if_pos ha]
    by_cases hr : (v.saga.back || decide (IntKind.i64.wrap (v.tries + 1) < 4)) = true
    · rw [if_pos hr]
      refine ⟨?_, rfl⟩
      simp only [Bool.false_eq_true, if_false]
      exact ⟨by show 0 ≤ IntKind.i64.wrap (v.tries + 1); omega, by show IntKind.i64.wrap (v.tries + 1) ≤ _; omega, by show 0 ≤ IntKind.i64.wrap (w.clock + longI (IntKind.i64.wrap (v.tries + 1))); omega, by show IntKind.i64.wrap (w.clock + longI (IntKind.i64.wrap (v.tries + 1))) ≤ _; omega, .inl ⟨hw, hput⟩⟩
    · rw [if_neg hr]
      simp only [Bool.or_eq_true, not_or, Bool.not_eq_true, decide_eq_true_eq] at hr
      refine ⟨?_, rfl⟩
      simp only [if_true]
      have hout : v.saga.out = true := by rw [hr.1] at h3; simpa using h3
      exact mk { v with tries := IntKind.i64.wrap (v.tries + 1) } 4 0 rfl (by show 0 ≤ IntKind.i64.wrap (v.tries + 1); omega) (by show IntKind.i64.wrap (v.tries + 1) ≤ _; omega) d0 d1 (by decide) rfl (by
        unfold fitsB; rw [if_neg (by simp), if_neg (by simp), if_pos (by rfl), hr.1, hout]; rfl)
  rw [if_neg ha]
  by_cases hb : a = 1 ∧ v.saga.back = false
  · rw [if_pos hb]
    refine ⟨?_, rfl⟩
    simp only [if_true]
    have hout : v.saga.out = true := by rw [hb.2] at h3; simpa using h3
    exact mk v 4 0 rfl t0 (by omega) d0 d1 (by decide) rfl (by
      unfold fitsB; rw [if_neg (by simp), if_neg (by simp), if_pos (by rfl), hb.2, hout]; rfl)
  rw [if_neg hb]
  by_cases hb1 : a = 1
  · rw [if_pos hb1]
    refine ⟨?_, rfl⟩
    simp only [if_true]
    have hbk : v.saga.back = true := by
      cases h : v.saga.back with
      | true => rfl
      | false => exact absurd ⟨hb1, h⟩ hb
    rw [hbk] at h2
    have hlf : ¬ v.saga.left = 0 := by simpa using h2
    exact mk v 6 3 rfl t0 (by omega) d0 d1 (by decide) rfl (by
      unfold fitsB; rw [if_neg (by simp), if_neg (by simp), if_neg (by simp), if_neg (by simp), if_pos (by rfl)]
      show endsB v.saga 3 = true
      unfold endsB; rw [if_neg (by decide), if_neg (by decide), if_neg (by decide), if_pos rfl, hbk]; simp; omega)
  rw [if_neg hb1]
  cases hbk : v.saga.back with
  | true =>
    rw [if_pos rfl]
    refine ⟨?_, rfl⟩
    simp only [if_true]
    rw [stepI, hbk, if_pos rfl] at hat
    exact mk v 5 (IntKind.i64.wrap (v.saga.left - 1)) rfl t0 (by omega) d0 d1 (by decide) (by rw [hat]; unfold kindB; rw [if_pos (by simp)]; simp; omega) (by
      unfold fitsB; rw [if_neg (by simp), if_neg (by simp), if_neg (by simp), if_pos (by rfl), hbk]; simp)
  | false =>
    simp only [Bool.false_eq_true, if_false, if_true, and_true]
    have hout : v.saga.out = true := by rw [hbk] at h3; simpa using h3
    rw [stepI, hbk, if_neg (by decide)] at hat
    exact mk v 3 v.saga.done rfl t0 (by omega) d0 d1 (by decide) (by rw [hat]; unfold kindB; rw [if_pos (by simp)]; simp; omega) (by
      unfold fitsB; rw [if_neg (by simp), if_pos (by rfl), hbk, hout]; simp)
end Go.Rx

/- A step keeps a world such as it may be: the whole. -/
set_option linter.unusedVariables false
set_option linter.unusedSimpArgs false
namespace Go.Rx
theorem WInv.put {w : Wd} {tb : Int} (h : WInv w tb) {W : Wd} {i : Nat} {x : Live} (hc : W.clock = w.clock) (ho : W.outs = w.outs) (hk0 : 0 ≤ W.taken) (hk1 : W.taken ≤ tb + 1) (hf : fileB W.file = true) (hg : ledgersB W.ledgers = true) (hx : LInv x (tb + 1)) (hs : togB (sagasL (w.lives.set i x)) = true) :
    WInv { W with lives := w.lives.set i x } (tb + 1) := by
  refine ⟨by show 0 ≤ W.clock; rw [hc]; exact h.c0, by show W.clock ≤ _; rw [hc]; exact h.c1, hk0, hk1, by show W.outs.length ≤ 400; rw [ho]; exact h.ol, by show W.outs.any outBad = false; rw [ho]; exact h.ob, hf, hg, hs, fun v hv => ?_⟩
  rcases mem_set_cases hv with e | e
  · rw [e]; exact hx
  · exact (h.lives v e).mono (by omega)
theorem set_tog {l : List Live} {i : Nat} {v x : Live} (h : l[i]? = some v) (hx : x.saga = v.saga) (ht : togB (sagasL l) = true) : togB (sagasL (l.set i x)) = true := by rw [set_saga h hx]; exact ht
theorem keys_at {id : Int} {i : Nat} (hid : 1 ≤ id ∧ id ≤ 20) (hi : i < 5) : callKey id i = id * 100 + 2 * i ∧ undoKey id i = id * 100 + 2 * i + 1 := by
  have e : callKey id i = id * 100 + 2 * i := by
    rw [callKey, wrapI (n := id * 100) (by omega), wrapI (n := 2 * (i : Int)) (by omega), wrapI (by omega)]
  exact ⟨e, by rw [undoKey, e, wrapI (by omega)]⟩
/-- The ledger that is called, and what the call is. -/
structure CallAt (w : Wd) (s : Saga) (i : Nat) (g : Ledger) (st : Step) : Prop where
  row : s.steps[i]? = some st
  stAt : stepAt s = st
  sv : 1 ≤ st.service ∧ st.service ≤ 4
  led : w.ledgers[(st.service - 1).toNat]? = some g
  gAt : ledgAt w s = g
  gsv : g.service = st.service
  may : ledgerB g = true
  key : keyB (entryW s).key = true
  deed : deedB g.service (entryW s).op (entryW s).who (entryW s).n = true
theorem WInv.callAt {w : Wd} {tb : Int} (h : WInv w tb) {s : Saga} (hs : sagaB s = true) {i : Nat} (hi : StepIn s i) : ∃ g st, CallAt w s i g st := by
  have hg := ledgersB_iff.1 h.ledgers
  have hp := parts_iff.1 hs
  have hl := parts_len hp
  have hlt := hi.lt
  have hat := hi.at'
  have hst : stepAt s = s.steps[i] := by
    rw [stepAt, hat]
    simp [hlt]
  have hpr := step_pair hs hlt
  have hsv := sv_of hpr.1.1
  have hk := keys_at ⟨hl.2.2.1, hl.2.2.2⟩ hi.i5
  have hgl : (s.steps[i].service - 1).toNat < w.ledgers.length := by have := hg.len; omega
  have hga := hg.at' _ _ (List.getElem?_eq_getElem hgl)
  refine ⟨w.ledgers[(s.steps[i].service - 1).toNat], s.steps[i], List.getElem?_eq_getElem hlt, hst, hsv, List.getElem?_eq_getElem hgl, by rw [ledgAt, hst, List.getElem?_eq_getElem hgl]; rfl, by rw [hga.1]; omega, hga.2, ?_, ?_⟩
  · rw [entryW, hat]
    split
    · show keyB (undoKey s.id i) = true
      rw [hk.2, keyB]; simp; omega
    · show keyB (callKey s.id i) = true
      rw [hk.1, keyB]; simp; omega
  · have hsg : (w.ledgers[(s.steps[i].service - 1).toNat]).service = s.steps[i].service := by rw [hga.1]; omega
    rw [hsg, entryW, hst]
    split
    · show deedB s.steps[i].service s.steps[i].undo s.steps[i].who s.steps[i].n = true
      rw [deedB, hpr.1.2.1, hpr.2.1]; simp [hpr.2.2]
    · show deedB s.steps[i].service s.steps[i].op s.steps[i].who s.steps[i].n = true
      rw [deedB, hpr.1.1, hpr.2.1]; simp [hpr.2.2]
theorem WInv.calledL {w : Wd} {tb : Int} (h : WInv w tb) {s : Saga} (hs : sagaB s = true) {i : Nat} (hi : StepIn s i) (he : (doneAt w s).2.2 = 0) : ledgersB (calledW w s).ledgers = true := by
  obtain ⟨g, st, hc⟩ := h.callAt hs hi
  have hg := ledgersB_iff.1 h.ledgers
  rw [doneAt, hc.gAt] at he
  have hd := do_may hc.may hc.key hc.deed he
  refine ledgersB_iff.2 ⟨by show (w.ledgers.set _ _).length = 4; rw [List.length_set]; exact hg.len, fun j x hx => ?_⟩
  have hx' : (w.ledgers.set ((stepAt s).service - 1).toNat (doneAt w s).1)[j]? = some x := hx
  rw [hc.stAt, doneAt, hc.gAt] at hx'
  by_cases e : j = (st.service - 1).toNat
  · subst e
    have hl : (st.service - 1).toNat < w.ledgers.length := (List.getElem?_eq_some_iff.1 hc.led).1
    rw [List.getElem?_set_self hl] at hx'
    cases hx'
    exact ⟨by rw [hd.2, hc.gsv]; have := hc.sv; omega, hd.1⟩
  · rw [List.getElem?_set_ne (Ne.symm e)] at hx'
    exact hg.at' j x hx'
theorem WInv.next {w : Wd} {tb : Int} (h : WInv w tb) (ht : tb ≤ 4611686018427387902) {v : Live} {i : Nat} (hi : w.lives[i]? = some v) (hst : v.saga.status = 0) (hk : v.write.kind = 0) (he : (nextW w v).2.2 = 0) :
    WInv { (nextW w v).1 with lives := w.lives.set i (nextW w v).2.1 } (tb + 1) := by
  have hmem : v ∈ w.lives := List.mem_of_getElem? hi
  have hl := h.lives v hmem
  have hs := h.saga hmem
  have hw := hl.zero.1 hk
  have hp := parts_iff.1 hs
  have hl4 := parts_len hp
  have hid : 1 ≤ v.saga.id ∧ v.saga.id ≤ 20 := ⟨hl4.2.2.1, hl4.2.2.2⟩
  have p0 := hp.d0
  have p1 := hp.d1
  have p4 := hp.ou
  have k1 := h.k1
  have k0 := h.k0
  have hput : v.put = false := by
    rcases hl.wr with h | h
    · exact h.2
    · rw [hw] at h; exact absurd (rec_kind h.2.1) (by show ¬ (1 ≤ (0 : Int) ∧ _); omega)
  have wr : ∀ (k n : Int), ¬ k = 1 → kindB k n = true → fitsB v.saga ⟨k, v.saga.id, n, ⟨#[]⟩, ⟨#[]⟩, []⟩ = true → WInv { w with lives := w.lives.set i { v with write := ⟨k, v.saga.id, n, ⟨#[]⟩, ⟨#[]⟩, []⟩ } } (tb + 1) := fun k n a1 a2 a3 => by
    obtain ⟨r1, r2⟩ := rec_fits hid hst a1 a2 a3
    refine h.put rfl rfl k0 (by omega) h.file h.ledgers ⟨hl.t0, by have := hl.t1; show v.tries ≤ _; omega, hl.d0, hl.d1, .inr ⟨a1, r1, r2⟩⟩ ?_
    exact set_tog hi rfl h.tog
  cases h1 : (!v.saga.back && (v.saga.done == (v.saga.steps.length : Int))) with
  | true =>
    have e : nextW w v = (w, { v with write := { zRec with kind := 6, id := v.saga.id, n := 1 } }, 0) := by rw [nextW]; simp only; rw [if_pos h1]
    rw [e]
    simp only [Bool.and_eq_true, Bool.not_eq_true', beq_iff_eq] at h1
    refine wr 6 1 (by decide) rfl ?_
    have ho : v.saga.out = false := by
      cases ho : v.saga.out with
      | false => rfl
      | true => exact absurd h1.2 (p4 ho)
    unfold fitsB; rw [if_neg (by simp), if_neg (by simp), if_neg (by simp), if_neg (by simp), if_pos (by rfl)]
    show endsB v.saga 1 = true
    unfold endsB; rw [if_neg (by decide), if_pos rfl, h1.1, ho, h1.2]; simp
  | false =>
  cases h2 : (v.saga.back && (v.saga.left == 0)) with
  | true =>
    have e : nextW w v = (w, { v with write := { zRec with kind := 6, id := v.saga.id, n := 2 } }, 0) := by rw [nextW]; simp only; rw [if_neg (by rw [h1]; decide), if_pos h2]
    rw [e]
    refine wr 6 2 (by decide) rfl ?_
    unfold fitsB; rw [if_neg (by simp), if_neg (by simp), if_neg (by simp), if_neg (by simp), if_pos (by rfl)]
    show endsB v.saga 2 = true
    unfold endsB; rw [if_neg (by decide), if_neg (by decide), if_pos rfl]; exact h2
  | false =>
  cases h3 : (!v.saga.back && !v.saga.out) with
  | true =>
    have e : nextW w v = (w, { v with write := { zRec with kind := 2, id := v.saga.id, n := v.saga.done } }, 0) := by rw [nextW]; simp only; rw [if_neg (by rw [h1]; decide), if_neg (by rw [h2]; decide), if_pos h3]
    rw [e]
    simp only [Bool.and_eq_true, Bool.not_eq_true'] at h3
    rw [h3.1] at h1
    have hne : ¬ v.saga.done = v.saga.steps.length := by simpa using h1
    refine wr 2 v.saga.done (by decide) (by unfold kindB; rw [if_pos (by simp)]; simp; omega) ?_
    unfold fitsB; rw [if_pos (by rfl), h3.1, h3.2]; simp; omega
  | false =>
  have hd : (doneAt w v.saga).2.2 = 0 := by
    rw [nextW] at he
    simp only at he
    rw [if_neg (by rw [h1]; decide), if_neg (by rw [h2]; decide), if_neg (by rw [h3]; decide)] at he
    split at he
    · assumption
    · exact he
  have e : nextW w v = (calledW w v.saga, (if (answeredL w.clock v (doneAt w v.saga).2.1).2.2 then { (answeredL w.clock v (doneAt w v.saga).2.1).1 with write := (answeredL w.clock v (doneAt w v.saga).2.1).2.1 } else (answeredL w.clock v (doneAt w v.saga).2.1).1), 0) := by
    rw [nextW]; simp only; rw [if_neg (by rw [h1]; decide), if_neg (by rw [h2]; decide), if_neg (by rw [h3]; decide), if_pos hd]
  rw [e]
  obtain ⟨j, hj⟩ := call_at hs hst h1 h2 h3
  obtain ⟨ha, hsg⟩ := answered_inv (w := w) hs hl ht hst hw hj h1 h2 h3 ⟨h.c0, h.c1⟩ (doneAt w v.saga).2.1
  have hwt : IntKind.i64.wrap (w.taken + 1) = w.taken + 1 := wrapI (by omega)
  refine h.put (W := calledW w v.saga) rfl rfl (by show 0 ≤ IntKind.i64.wrap (w.taken + 1); omega) (by show IntKind.i64.wrap (w.taken + 1) ≤ _; omega) h.file (h.calledL hs hj hd) ha ?_
  exact set_tog hi (by split <;> exact hsg) h.tog
theorem WInv.written {w : Wd} {tb : Int} (h : WInv w tb) {v : Live} {i : Nat} (hi : w.lives[i]? = some v) (hk : ¬ v.write.kind = 0) (he : (writtenW w v).2.2 = 0) :
    WInv { (writtenW w v).1 with lives := w.lives.set i (writtenW w v).2.1 } (tb + 1) := by
  have hmem : v ∈ w.lives := List.mem_of_getElem? hi
  have hl := h.lives v hmem
  have hs := h.saga hmem
  have k1 := h.k1
  have k0 := h.k0
  have t0 := hl.t0
  have t1 := hl.t1
  have hr : ¬ v.write.kind = 1 ∧ recB v.write = true ∧ fitsL v = true := by
    rcases hl.wr with e | e
    · exact absurd (hl.zero.2 e.1) hk
    · exact e
  have hf := hr.2.2
  simp only [fitsL, Bool.and_eq_true, beq_iff_eq] at hf
  cases hp : v.put with
  | true =>
    have e : writtenW w v = ({ w with file := (crashP w.file w.file.tail.size).1 }, ⟨nextS v.saga v.write, 0, w.clock, zRec, false⟩, 0) := by rw [writtenW, if_pos hp]
    rw [e]
    have hg := apply_goes hs hr.2.1 hf.1 hf.2.1 hf.2.2
    have hgd := apply_good hs hg
    have hnx := (apply_went hs hg).2.2.2.2
    refine h.put (W := { w with file := (crashP w.file w.file.tail.size).1 }) rfl rfl k0 (by show w.taken ≤ _; omega) (sync_may h.file) h.ledgers ⟨Int.le_refl 0, by show (0 : Int) ≤ _; omega, h.c0, by show w.clock ≤ _; have := h.c1; omega, .inl ⟨rfl, rfl⟩⟩ ?_
    rw [sagas_set]
    exact tog_set h.tog (sagas_at hi) (by rw [← hnx]; exact hgd.may) (next_id _ _) (next_keep _ _).1
  | false =>
    have hd : (jappP w.file v.write).2 = 0 := by
      rw [writtenW, if_neg (by rw [hp]; decide)] at he
      split at he
      · assumption
      · exact he
    have e : writtenW w v = ({ w with file := (jappP w.file v.write).1 }, { v with put := true }, 0) := by rw [writtenW, if_neg (by rw [hp]; decide), if_pos hd]
    rw [e]
    refine h.put (W := { w with file := (jappP w.file v.write).1 }) rfl rfl k0 (by show w.taken ≤ _; omega) (app_file hd) h.ledgers ⟨t0, by show v.tries ≤ _; omega, hl.d0, hl.d1, .inr hr⟩ ?_
    exact set_tog hi rfl h.tog
theorem stepW_at {w : Wd} {i : Nat} {v : Live} (h : dueI w = some i) (hv : w.lives[i]? = some v) : stepW w = if (moveW w v).2.2 = 0 then ({ (moveW w v).1 with lives := w.lives.set i (moveW w v).2.1 }, 0) else (w, (moveW w v).2.2) := by
  rw [stepW, h]
  simp only
  rw [hv]
theorem dueB_st {c : Int} {v : Live} (h : dueB c v = true) : v.saga.status = 0 := by rw [dueB, Bool.and_eq_true] at h; exact eq_of_beq h.1
theorem WInv.step {w : Wd} {tb : Int} (h : WInv w tb) (ht : tb ≤ 4611686018427387902) (he : (stepW w).2 = 0) : WInv (stepW w).1 (tb + 1) := by
  cases hd : dueI w with
  | none => rw [stepW, hd] at he; cases he
  | some i =>
    obtain ⟨v, hv, hb⟩ := dueI_some hd
    rw [stepW_at hd hv] at he ⊢
    have hm : (moveW w v).2.2 = 0 := by
      split at he
      · assumption
      · exact he
    rw [if_pos hm]
    by_cases hk : v.write.kind = 0
    · have e : moveW w v = nextW w v := by rw [moveW, if_neg (by rw [hk]; decide)]
      rw [e] at hm ⊢
      exact h.next ht hv (dueB_st hb) hk hm
    · have e : moveW w v = writtenW w v := by rw [moveW, if_pos (by simpa using hk)]
      rw [e] at hm ⊢
      exact h.written hv hk hm
/-- No step on the way fails. -/
def okGo : Nat → Wd → Bool
  | 0, _ => true
  | k + 1, w => (dueI w).isNone || ((stepW w).2 == 0 && okGo k (stepW w).1)
theorem WInv.stepOk {w : Wd} {tb : Int} (h : WInv w tb) (ht : tb ≤ 4611686018427387902) (he : (stepW w).2 = 0 ∨ dueI w = none) : StepOk w :=
  ⟨h.wok.ll, fun v hv hd => h.move (by omega) hv hd, he⟩
theorem WInv.goOk : ∀ {k : Nat} {w : Wd} {tb : Int}, WInv w tb → tb + k ≤ 4611686018427387902 → okGo k w = true → GoOk k w
  | 0, w, tb, _, _, _ => trivial
  | k + 1, w, tb, h, ht, he => by
    rw [okGo, Bool.or_eq_true, Bool.and_eq_true, Option.isNone_iff_eq_none, beq_iff_eq] at he
    refine ⟨h.stepOk (by omega) (by rcases he with e | e; exact .inr e; exact .inl e.1), fun e0 => ?_⟩
    rcases he with e | e
    · rw [stepW, e] at e0; cases e0
    · exact WInv.goOk (h.step (by omega) e0) (by omega) e.2
theorem WInv.goEnd : ∀ {k : Nat} {w : Wd} {tb : Int}, WInv w tb → tb + k ≤ 4611686018427387902 → WInv (goW k w).1 (tb + k)
  | 0, w, tb, h, _ => h.mono (by omega)
  | k + 1, w, tb, h, ht => by
    rw [goW]
    split
    · rename_i e0
      exact (WInv.goEnd (h.step (by omega) e0) (by omega)).mono (by omega)
    · exact h.mono (by omega)
theorem WInv.clock {w : Wd} {tb : Int} (h : WInv w tb) (hc : w.clock < 1073741824) : WInv { w with clock := IntKind.i64.wrap (w.clock + 1) } tb := by
  have h0 := h.c0
  have e : IntKind.i64.wrap (w.clock + 1) = w.clock + 1 := wrapI (by omega)
  exact ⟨by show 0 ≤ IntKind.i64.wrap (w.clock + 1); omega, by show IntKind.i64.wrap (w.clock + 1) ≤ _; omega, h.k0, h.k1, h.ol, h.ob, h.file, h.ledgers, h.tog, h.lives⟩
end Go.Rx
