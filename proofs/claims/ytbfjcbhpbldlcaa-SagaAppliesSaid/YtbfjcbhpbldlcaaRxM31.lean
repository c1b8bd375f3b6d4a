/- Whether any saga may be, and what any record makes of it: the law. Sagas whose steps are the call's own; what writes over them. -/
import Derived.Test.YtbfjcbhpbldlcaaRxM30
set_option linter.unusedVariables false
set_option linter.unusedSimpArgs false
namespace Go.Rx
/-- A saga whose steps are the call's own: block 0. -/
abbrev sagaOA (s : Saga) : AV := .agg [.pv (pI s.id), .pv (pS s.key), .pv (pS s.body), .own 0 s.steps.length, .pv (pI s.done), .pv (pB s.out), .pv (pB s.back), .pv (pI s.left), .pv (pI s.status)]
abbrev sagaO (p : Saga × Int) : AV := .tup [.agg [.pv (pI p.1.id), .pv (pS p.1.key), .pv (pS p.1.body), .own 0 p.1.steps.length, .pv (pI p.1.done), .pv (pB p.1.out), .pv (pB p.1.back), .pv (pI p.1.left), .pv (pI p.1.status)], .lf (.pv (pI p.2))]
theorem next_steps (s : Saga) (r : Rec) : (nextS s r).steps = s.steps := (next_keep s r).2.2
end Go.Rx
namespace Go.Proofs.Ytbfjcbhpbldlcaa.Rx
open Go.Rx Go.Proofs Go.Proofs.Ytbfjcbhpbldlcaa.RxH

abbrev nbS (s : Saga) : List Blk := [.arr 74 6 (s.steps.map Step.enc)]
theorem cloneO_con (l : List Step) (hl : l.length * 80 ≤ 140737488351232) : Con P 55 [.lf (.pv (encSteps l))] (.lf (.own 0 l.length)) [.arr 74 6 (l.map Step.enc)] := by
  have hm : (l.map Step.enc).length = l.length := List.length_map ..
  refine ConG.con (ConG.of T_ok Try.func55 rfl (by kernel_rfl) (by kernel_rfl) (aw_ofC T_ok 2001 (by kernel_rfl) ?_)) rfl
  conv => whnf
  refine AW.seq (AW.nilTest T_ok rfl rfl (by decide) ?_ ?_) fun sl bk h => aw_of T_ok (by kernel_rfl) h
  · intro h0
    conv => whnf
    have hl0 : l = [] := by simpa using h0
    subst hl0
    exact ⟨[.slot 2 74 6], rfl, [0], [.lf (.own 0 0)], [.lf (.own 0 0)], rfl, rfl, rfl, wk_refl _, rfl⟩
  · conv => whnf
    refine ⟨_, .inl rfl, ?_⟩
    conv => whnf
    refine ⟨rfl, by show (0 + (l.map Step.enc).length) * 80 ≤ _; omega, ?_⟩
    conv => whnf
    refine ⟨[], [0], [.lf (.own 0 l.length)], [.lf (.own 0 l.length)], rfl, rfl, ?_, wk_refl _, rfl⟩
    show some [AV.lf (.own 0 (0 + (l.map Step.enc).length))] = _
    rw [hm, Nat.zero_add]
theorem ownO_con (s : Saga) (hl : s.steps.length * 80 ≤ 140737488351232) : Con P 67 [encSaga s] (sagaOA s) (nbS s) := by
  refine ConG.con (ConG.of T_ok Try.func67 rfl (by kernel_rfl) (by kernel_rfl) (aw_of T_ok (by kernel_rfl) ?_)) rfl
  conv => whnf
  refine ⟨_, _, _, wk_refl _, cloneO_con s.steps hl, .inr ?_⟩
  conv => whnf
  exact ⟨[], [2], [sagaOA s], [sagaOA s], rfl, rfl, rfl, wk_refl _, rfl⟩
theorem nextO_con (s : Saga) (r : Rec) (hl : s.steps.length * 80 ≤ 140737488351232) : Con P 43 [encSaga s, encRec r] (sagaOA (nextS s r)) (nbS (nextS s r)) := by
  obtain ⟨d, hd⟩ : ∃ d, d = nextS s r := ⟨_, rfl⟩
  rw [← hd]
  refine ConG.con (ConG.of T_ok Try.func43 rfl (by kernel_rfl) (by kernel_rfl) (aw_of T_ok (by kernel_rfl) ?_)) rfl
  conv => whnf
  refine ⟨_, _, _, wk_refl _, ownO_con s hl, .inr ?_⟩
  conv => whnf
  split <;> rename_i k2 <;> conv => whnf
  · rw [nextS, if_pos (show r.kind = 2 by simpa using k2)] at hd
    subst hd
    exact ⟨[], [3], [_], [_], rfl, rfl, rfl, wk_refl _, rfl⟩
  rw [nextS, if_neg (show ¬ r.kind = 2 by simpa using k2)] at hd
  split <;> rename_i k3 <;> conv => whnf
  · rw [if_pos (show r.kind = 3 by simpa using k3)] at hd
    subst hd
    exact ⟨[], [3], [_], [_], rfl, rfl, rfl, wk_refl _, rfl⟩
  rw [if_neg (show ¬ r.kind = 3 by simpa using k3)] at hd
  split <;> rename_i k4 <;> conv => whnf
  · rw [if_pos (show r.kind = 4 by simpa using k4)] at hd
    subst hd
    exact ⟨[], [3], [_], [_], rfl, rfl, rfl, wk_refl _, rfl⟩
  rw [if_neg (show ¬ r.kind = 4 by simpa using k4)] at hd
  split <;> rename_i k5 <;> conv => whnf
  · rw [if_pos (show r.kind = 5 by simpa using k5)] at hd
    subst hd
    exact ⟨[], [3], [_], [_], rfl, rfl, rfl, wk_refl _, rfl⟩
  rw [if_neg (show ¬ r.kind = 5 by simpa using k5)] at hd
  subst hd
  exact ⟨[], [3], [_], [_], rfl, rfl, rfl, wk_refl _, rfl⟩
theorem applyO_con (s : Saga) (r : Rec) (hs : s.Ok) (hr : r.Ok) : Con P 18 [encSaga s, encRec r] (sagaO (applyS s r)) (nbS (applyS s r).1) := by
  have hlen := hs.steps.len
  obtain ⟨d, hd⟩ : ∃ d, d = applyS s r := ⟨_, rfl⟩
  rw [← hd]
  refine ConG.con (ConG.of T_ok Try.func18 rfl (by kernel_rfl) (by kernel_rfl) (aw_of T_ok (by kernel_rfl) ?_)) rfl
  conv => whnf
  refine callS (sagaMay_con s hs) rfl ?_
  conv => whnf
  split <;> rename_i h1 <;> conv => whnf
  · have hd2 : d = (zS, 1) := hd.trans (by rw [applyS, if_pos (by rw [show (!(sagaB s)) = true from h1]; rfl)])
    subst hd2
    exact ⟨[.cell 2 3 74 6], ⟨rfl, [3], [sagaOA zS, Go.Rx.I 1], [sagaOA zS, Go.Rx.I 1], rfl, rfl, rfl, wk_refl _, rfl⟩⟩
  refine callS (recMay_con r hr) rfl ?_
  conv => whnf
  split <;> rename_i h2 <;> conv => whnf
  · have hd2 : d = (zS, 1) := hd.trans (by rw [applyS, if_pos (by rw [show (!(recB r)) = true from h2, Bool.or_true])])
    subst hd2
    exact ⟨[.cell 2 3 74 6], ⟨rfl, [3], [sagaOA zS, Go.Rx.I 1], [sagaOA zS, Go.Rx.I 1], rfl, rfl, rfl, wk_refl _, rfl⟩⟩
  rw [applyS, if_neg (show ¬ (!(sagaB s) || !(recB r)) = true by rw [show (!(sagaB s)) = false from h1, show (!(recB r)) = false from h2]; decide)] at hd
  split <;> rename_i h3 <;> conv => whnf
  · rw [if_pos (show (r.id != s.id) = true from h3)] at hd
    subst hd
    exact ⟨[.cell 2 3 74 6], ⟨rfl, [3], [sagaOA zS, Go.Rx.I 3], [sagaOA zS, Go.Rx.I 3], rfl, rfl, rfl, wk_refl _, rfl⟩⟩
  rw [if_neg (show ¬ (r.id != s.id) = true by rw [show (r.id != s.id) = false from h3]; decide)] at hd
  refine callS (fitsTop_con s r) rfl ?_
  conv => whnf
  split <;> rename_i h4 <;> conv => whnf
  · have h4' : (r.id == s.id && (s.status == 0 && fitsB s r)) = false := by
      cases hx : (r.id == s.id && (s.status == 0 && fitsB s r)) with
      | false => rfl
      | true => rw [hx] at h4; cases h4
    rw [if_neg (by rw [h4']; decide)] at hd
    subst hd
    exact ⟨[.cell 2 3 74 6], ⟨rfl, [3], [sagaOA zS, Go.Rx.I 9], [sagaOA zS, Go.Rx.I 9], rfl, rfl, rfl, wk_refl _, rfl⟩⟩
  rw [if_pos (by simpa using h4)] at hd
  subst hd
  refine ⟨_, _, _, wk_refl _, nextO_con s r hlen, .inr ?_⟩
  conv => whnf
  exact ⟨[], [3], [sagaOA (nextS s r), Go.Rx.I 0], [sagaOA (nextS s r), Go.Rx.I 0], rfl, rfl, rfl, wk_refl _, rfl⟩
theorem beginTopO_con (r : Rec) (hr : r.Ok) : Con P 34 [encRec r] (sagaO (beginS r)) (nbS (beginS r).1) := by
  obtain ⟨d, hd⟩ : ∃ d, d = beginS r := ⟨_, rfl⟩
  rw [← hd]
  refine ConG.con (ConG.of T_ok Try.func34 rfl (by kernel_rfl) (by kernel_rfl) (aw_of T_ok (by kernel_rfl) ?_)) rfl
  conv => whnf
  split <;> rename_i h1 <;> conv => whnf
  · rw [beginS, if_pos (by rw [show (r.kind != 1) = true from h1]; rfl)] at hd
    subst hd
    exact ⟨[.cell 1 3 74 6], ⟨rfl, [2], [sagaOA zS, Go.Rx.I 1], [sagaOA zS, Go.Rx.I 1], rfl, rfl, rfl, wk_refl _, rfl⟩⟩
  refine callS (recMay_con r hr) rfl ?_
  conv => whnf
  split <;> rename_i h2 <;> conv => whnf
  · rw [beginS, if_pos (by rw [show (!(recB r)) = true from h2, Bool.or_true])] at hd
    subst hd
    exact ⟨[.cell 1 3 74 6], ⟨rfl, [2], [sagaOA zS, Go.Rx.I 1], [sagaOA zS, Go.Rx.I 1], rfl, rfl, rfl, wk_refl _, rfl⟩⟩
  rw [beginS, if_neg (by rw [show (r.kind != 1) = false from h1, show (!(recB r)) = false from h2]; decide)] at hd
  subst hd
  refine AW.draw T_ok rfl (seqPl 0 12) (by kernel_rfl) (by kernel_rfl) ?_
  conv => whnf
  refine ⟨_, _, _, wk_refl _, cloneO_con r.steps hr.steps.len, .inr ?_⟩
  conv => whnf
  exact ⟨[], [2], [sagaOA ⟨r.id, r.key, r.body, r.steps, 0, false, false, 0, 0⟩, Go.Rx.I 0], [sagaOA ⟨r.id, r.key, r.body, r.steps, 0, false, false, 0, 0⟩, Go.Rx.I 0], rfl, rfl, rfl, wk_refl _, rfl⟩
theorem spoilSaga_con (s : Saga) (h : s.Ok) : ConG P 33 (nbS s) [sagaOA s] (.tup []) [.arr 74 6 (s.steps.map fun _ => spoilt.enc)] := by
  refine ConG.of T_ok Try.func33 rfl (by kernel_rfl) (by kernel_rfl) (aw_of T_ok (by kernel_rfl) ?_)
  conv => whnf
  refine ⟨[0], _, _, _, _, _, nodupB_ok rfl, rfl, rfl, wk_refl _, spoilSteps_con s.steps h.steps.len, ?_⟩
  conv => whnf
  exact ⟨[], [0], [], [], rfl, rfl, rfl, trivial, rfl⟩
end Go.Proofs.Ytbfjcbhpbldlcaa.Rx
namespace Go.Proofs.Ytbfjcbhpbldlcaa.Rx
open Go.Rx Go.Proofs Go.Proofs.Ytbfjcbhpbldlcaa.RxH

abbrev recV (r : Rec) : Blk := .var [.pv (pI r.kind), .pv (pI r.id), .pv (pI r.n), .pv (pS r.key), .pv (pS r.body), .pv (encSteps r.steps)]
set_option maxHeartbeats 4000000 in
set_option maxRecDepth 100000 in
theorem sagaApplies_con (R : List Rec) (S : List ByteArray) (N : List Int) (G : List Saga) (h : AskOk R S N G) : Con P 11 [encAsk R S N G] (Bl true) [] := by
  have hG : (G.map Saga.enc).length = G.length := List.length_map ..
  have hGl := h.hG
  have hRm : (R.map Rec.enc).length = R.length := List.length_map ..
  have hRl := h.hR
  obtain ⟨hv, hheavy⟩ := heavy14_con R S N G h
  refine Con.of T_ok Try.func11 rfl (by kernel_rfl) (by kernel_rfl) (aw_ofC T_ok 1003 (by kernel_rfl) ?_)
  conv => whnf
  refine callS hheavy rfl ?_
  conv => whnf
  split <;> rename_i hh <;> conv => whnf
  · exact finB ⟨rfl⟩
  refine AW.cut (fun _ : Unit => True) (fun _ => [(1, .lf (.ptr 0 0))]) (fun _ => [askV R S N G]) [] (aw_of T_ok (by kernel_rfl) ?_) ?_
  rotate_left
  · rintro _ _
    refine aw_of T_ok (by kernel_rfl) ?_
    conv => whnf
    refine AW.loop (fun i : Nat => i ≤ R.length) (fun i => [(1, .lf (.ptr 0 0)), (20, Go.Rx.I i)]) (fun _ => [askV R S N G]) (fun i => R.length - i) [] ?_ ?_
    · exact ⟨0, Nat.zero_le _, ⟨rfl, rfl, trivial⟩, ⟨[], rfl⟩, rfl, rfl⟩
    rintro i hi
    refine aw_ofC T_ok 1038 (by kernel_rfl) ?_
    conv => whnf
    split <;> rename_i hlt <;> conv => whnf
    rotate_left
    · refine callS wakes_con rfl ?_
      conv => whnf
      exact finB ⟨rfl⟩
    have hiR : i < R.length := by have := of_decide_eq_true hlt; omega
    have hr := h.hRs _ (List.getElem_mem hiR)
    have hrow : (R.map Rec.enc)[i]? = some (R[i]).enc := by simp [hiR]
    generalize R[i] = r at hr hrow
    split <;> rename_i h6 <;> conv => whnf
    rotate_left
    · refine callS wakes_con rfl ?_
      conv => whnf
      exact finB ⟨rfl⟩
    have ca := beginTopO_con r hr
    have crec := rec9_con r hr
    have cb := begin9_con r hr.steps.len
    obtain ⟨q, hq⟩ : ∃ q, q = beginS r := ⟨_, rfl⟩
    obtain ⟨may, hmay⟩ : ∃ may, may = (recB r && r.kind == 1) := ⟨_, rfl⟩
    have hyes : may = true → q = (⟨r.id, r.key, r.body, r.steps, 0, false, false, 0, 0⟩, 0) := fun e => by
      rw [e] at hmay
      have := hmay.symm
      rw [Bool.and_eq_true] at this
      rw [hq, beginS, if_neg (by rw [this.1, beq_iff_eq.1 this.2]; decide)]
    have hno : may = false → q = (zS, 1) := fun e => by
      rw [e] at hmay
      rw [hq, beginS, if_pos]
      rcases Bool.and_eq_false_iff.1 hmay.symm with e | e
      · rw [e]; simp
      · simp at e; simp [e]
    have hqok : q.1.Ok := by
      cases may
      · rw [hno rfl]; exact zS_ok
      · rw [hyes rfl]; exact ⟨hr.key, hr.body, hr.steps⟩
    rw [← hq] at ca
    obtain ⟨y, e⟩ := q
    simp only at hqok
    have her : -9223372036854775808 ≤ e ∧ e ≤ 9223372036854775807 := by
      cases may
      · cases hno rfl; decide
      · cases hyes rfl; decide
    obtain ⟨sp, hsp⟩ : ∃ sp : PV, sp = if may then encSteps y.steps else .sc (.slice none 0 0) := ⟨_, rfl⟩
    have wsp : WkL (.pv sp) (.pv (encSteps y.steps)) := by
      rw [hsp]
      cases may
      · cases hno rfl; exact wkN 6
      · exact wkE _
    clear hq
    refine ⟨by omega, r.enc, hrow, ?_⟩
    conv => whnf
    refine callU (copyRec_con r hr) (fun _ => rfl) ?_
    conv => whnf
    refine ⟨_, _, _, wk_refl _, ca, .inr ?_⟩
    conv => whnf
    refine AW.cut (fun _ : Unit => True) (fun _ => [(1, .lf (.ptr 0 0)), (20, Go.Rx.I i), (21, .lf (.ptr 1 0)), (22, .lf (.ptr 3 0)), (23, Go.Rx.I e), (24, Go.Rx.I e), (25, .lf (.ptr 4 0))])
      (fun _ => [askV R S N G, recV r, .arr 74 6 (y.steps.map Step.enc), .var [.pv (pI y.id), .pv (pS y.key), .pv (pS y.body), .own 2 y.steps.length, .pv (pI y.done), .pv (pB y.out), .pv (pB y.back), .pv (pI y.left), .pv (pI y.status)],
        .var [.pv (pI y.id), .pv (pS y.key), .pv (pS y.body), .pv sp, .pv (pI y.done), .pv (pB y.out), .pv (pB y.back), .pv (pI y.left), .pv (pI y.status)]]) [] (aw_of T_ok (by kernel_rfl) ?_) ?_
    · conv => whnf
      refine callS crec rfl ?_
      conv => whnf
      split <;> rename_i t1 <;> conv => whnf
      · split <;> rename_i t2 <;> conv => whnf
        · have hm : may = true := by rw [hmay, show recB r = true from t1, show (r.kind == 1) = true from t2]; rfl
          cases hyes hm
          rw [hm] at hsp
          have hsp2 : sp = encSteps r.steps := hsp
          subst hsp2
          refine callU cb (fun _ => rfl) ?_
          conv => whnf
          exact ⟨(), trivial, ⟨rfl, rfl, rfl, rfl, rfl, rfl, rfl, trivial⟩, ⟨[], rfl⟩, rfl, rfl⟩
        · have hm : may = false := by rw [hmay, show (r.kind == 1) = false from t2, Bool.and_false]
          cases hno hm
          rw [hm] at hsp
          have hsp2 : sp = .sc (.slice none 0 0) := hsp
          subst hsp2
          exact ⟨(), trivial, ⟨rfl, rfl, rfl, rfl, rfl, rfl, rfl, trivial⟩, ⟨[], rfl⟩, rfl, rfl⟩
      · have hm : may = false := by rw [hmay, show recB r = false from t1]; rfl
        cases hno hm
        rw [hm] at hsp
        have hsp2 : sp = .sc (.slice none 0 0) := hsp
        subst hsp2
        exact ⟨(), trivial, ⟨rfl, rfl, rfl, rfl, rfl, rfl, rfl, trivial⟩, ⟨[], rfl⟩, rfl, rfl⟩
    rintro _ _
    have hyl := hqok.steps.len
    have cxy := eqSaga_con y y hyl
    rw [decide_eq_true rfl] at cxy
    have crr := eqRec_con r r hr.steps.len
    rw [decide_eq_true rfl] at crr
    refine aw_of T_ok (by kernel_rfl) ?_
    conv => whnf
    refine callS (num_con e her) rfl ?_
    conv => whnf
    split <;> rename_i t5 <;> conv => whnf
    · rw [neq_self] at t5; cases t5
    refine ⟨List.length_map .., ?_⟩
    conv => whnf
    refine callW cxy ⟨.inl rfl, .inr (.inr ⟨_, _, rfl, rfl, wkE _, wkE _, wkE _, wsp, wkE _, wkE _, wkE _, wkE _, wkE _, trivial⟩), trivial⟩ rfl ?_
    conv => whnf
    refine ⟨[2], _, _, _, _, _, nodupB_ok rfl, rfl, rfl, wk_refl _, spoilSaga_con y hqok, ?_⟩
    conv => whnf
    refine AW.draw T_ok rfl (seqPl 0 9) (by kernel_rfl) (by kernel_rfl) ?_
    conv => whnf
    refine ⟨by omega, r.enc, hrow, ?_⟩
    conv => whnf
    refine callS crr rfl ?_
    conv => whnf
    exact ⟨i + 1, ⟨by omega, by omega⟩, ⟨rfl, congrArg Go.Rx.I (wrapI (by omega)), trivial⟩, ⟨_, rfl⟩, rfl, rfl⟩
  · conv => whnf
    refine AW.loop (fun i : Nat => i ≤ G.length) (fun i => [(1, .lf (.ptr 0 0)), (3, Go.Rx.I i)]) (fun _ => [askV R S N G]) (fun i => G.length - i) [] ?_ ?_
    · exact ⟨0, Nat.zero_le _, ⟨rfl, rfl, trivial⟩, ⟨[], rfl⟩, rfl, rfl⟩
    rintro i hi
    refine aw_ofC T_ok 1012 (by kernel_rfl) ?_
    conv => whnf
    split <;> rename_i hlt <;> conv => whnf
    rotate_left
    · exact ⟨(), trivial, ⟨rfl, trivial⟩, ⟨[], rfl⟩, rfl, rfl⟩
    have hiG : i < G.length := by have := of_decide_eq_true hlt; omega
    have hs := h.hGs _ (List.getElem_mem hiG)
    have hrow : (G.map Saga.enc)[i]? = some (G[i]).enc := by simp [hiG]
    generalize G[i] = s at hs hrow
    split <;> rename_i h6 <;> conv => whnf
    rotate_left
    · exact ⟨(), trivial, ⟨rfl, trivial⟩, ⟨[], rfl⟩, rfl, rfl⟩
    refine ⟨by omega, s.enc, hrow, ?_⟩
    conv => whnf
    refine callU (copySaga_con s hs.steps.len) (fun _ => rfl) ?_
    conv => whnf
    refine ⟨by omega, s.enc, hrow, ?_⟩
    conv => whnf
    obtain ⟨may, hmay⟩ : ∃ may, may = sagaB s := ⟨_, rfl⟩
    obtain ⟨bad, hbad⟩ : ∃ bad : Int, bad = if may then 0 else 1 := ⟨_, rfl⟩
    obtain ⟨nd, hnd⟩ : ∃ nd : Int, nd = if may then roomI s else 0 := ⟨_, rfl⟩
    obtain ⟨ms, hms⟩ : ∃ ms : List ByteArray, ms = if may then marksL s else [] := ⟨_, rfl⟩
    obtain ⟨mp, hmp⟩ : ∃ mp : PV, mp = if may then encStrs ms else .sc (.slice none 0 0) := ⟨_, rfl⟩
    have hneed : needP s = (nd, bad) := by rw [needP, ← hmay, hnd, hbad]; cases may <;> rfl
    have hmarks : marksP s = (ms, bad) := by rw [marksP, ← hmay, hms, hbad]; cases may <;> rfl
    have wmp : WkL (.pv mp) (.pv (encStrs ms)) := by
      rw [hmp, hms]; cases may
      · exact wkN 1
      · exact wkE _
    have hbr : -9223372036854775808 ≤ bad ∧ bad ≤ 9223372036854775807 := by rw [hbad]; cases may <;> decide
    have hml : ms.length * 16 ≤ 140737488351232 := by
      have := hs.steps.len
      rw [hms]; cases may
      · show (0 : Nat) * 16 ≤ _; omega
      · simp only [if_true, marksL, List.length_map, List.length_range]; omega
    have c9 := saga9_con s hs
    rw [← hmay] at c9
    have cn := need_con s hs
    rw [hneed] at cn
    have cm := marks_con s hs
    rw [hmarks] at cm
    have cc := check_con s hs
    rw [← hmay, show (if may = true then (0 : Int) else 1) = bad from hbad.symm] at cc
    refine callS c9 rfl ?_
    conv => whnf
    refine callU cn (fun _ => rfl) ?_
    conv => whnf
    refine callU cm (fun _ => rfl) ?_
    conv => whnf
    refine AW.cut (fun _ : Unit => True) (fun _ => [(1, .lf (.ptr 0 0)), (3, Go.Rx.I i), (4, .lf (.ptr 1 0)), (5, Bl may), (6, Go.Rx.I nd), (7, Go.Rx.I bad), (8, .lf (.pv (encStrs ms))), (9, Go.Rx.I bad), (10, Go.Rx.I bad), (11, Go.Rx.I nd), (12, .lf (.pv mp))]) (fun _ => [askV R S N G, sagaV s]) [] (aw_of T_ok (by kernel_rfl) ?_) ?_
    · conv => whnf
      clear c9 cn cm cc hneed hmarks wmp hbr hml
      cases may with
      | true =>
        obtain rfl := hbad
        obtain rfl := hnd
        obtain rfl := hms
        obtain rfl := hmp
        refine AW.draw T_ok rfl (listPl [0, 2, 1, 3, 4, 5, 6]) (by kernel_rfl) (by kernel_rfl) ?_
        conv => whnf
        refine callS (need9_con s) rfl ?_
        conv => whnf
        refine callU (marks9_con s hs) (fun _ => rfl) ?_
        conv => whnf
        exact ⟨(), trivial, ⟨rfl, rfl, rfl, rfl, rfl, rfl, rfl, rfl, rfl, rfl, rfl, trivial⟩, ⟨[], rfl⟩, rfl, rfl⟩
      | false =>
        obtain rfl := hbad
        obtain rfl := hnd
        obtain rfl := hms
        obtain rfl := hmp
        exact ⟨(), trivial, ⟨rfl, rfl, rfl, rfl, rfl, rfl, rfl, rfl, rfl, rfl, rfl, trivial⟩, ⟨[], rfl⟩, rfl, rfl⟩
    rintro _ _
    refine aw_of T_ok (by kernel_rfl) ?_
    conv => whnf
    refine callS cc rfl ?_
    conv => whnf
    refine callS (num_con bad hbr) rfl ?_
    conv => whnf
    split <;> rename_i t1 <;> conv => whnf
    · rw [neq_self] at t1; cases t1
    refine callS (num_con bad hbr) rfl ?_
    conv => whnf
    split <;> rename_i t2 <;> conv => whnf
    · rw [neq_self] at t2; cases t2
    split <;> rename_i t3 <;> conv => whnf
    · rw [neq_self] at t3; cases t3
    refine callS (num_con bad hbr) rfl ?_
    conv => whnf
    split <;> rename_i t4 <;> conv => whnf
    · rw [neq_self] at t4; cases t4
    have ces := eqStrings_con ms ms hml
    rw [decide_eq_true rfl] at ces
    refine callW ces ⟨.inl rfl, .inr (.inl ⟨_, _, rfl, rfl, wmp⟩), trivial⟩ rfl ?_
    conv => whnf
    refine callU (records_con R S N G h s.id) (fun _ => rfl) ?_
    conv => whnf
    have hlen := recs_len R s.id
    have hm : ((recsL R s.id).map Rec.enc).length = (recsL R s.id).length := List.length_map ..
    have hrok := recs_ok h.hRs s.id
    clear c9 cn cm cc ces hms hmp hneed hmarks wmp hnd hml hbad hbr
    generalize recsL R s.id = l at hlen hm hrok
    refine AW.loop (fun k : Nat => k ≤ l.length) (fun k => [(1, .lf (.ptr 0 0)), (3, Go.Rx.I i), (4, .lf (.ptr 1 0)), (5, Bl may), (13, .lf (.pv (encRecs l))), (14, Go.Rx.I k)]) (fun _ => [askV R S N G, sagaV s]) (fun k => l.length - k) [] ?_ ?_
    · exact ⟨0, Nat.zero_le _, ⟨rfl, rfl, rfl, rfl, rfl, rfl, trivial⟩, ⟨[], rfl⟩, rfl, rfl⟩
    rintro k hk
    refine aw_ofC T_ok 1024 (by kernel_rfl) ?_
    conv => whnf
    split <;> rename_i hlt2 <;> conv => whnf
    rotate_left
    · exact ⟨i + 1, ⟨by omega, by omega⟩, ⟨rfl, congrArg Go.Rx.I (wrapI (by omega)), trivial⟩, ⟨_, rfl⟩, rfl, rfl⟩
    have hkl : k < l.length := by have := of_decide_eq_true hlt2; omega
    have hr := hrok _ (List.getElem_mem hkl)
    have hrow2 : (l.map Rec.enc)[k]? = some (l[k]).enc := by simp [hkl]
    generalize l[k] = r at hr hrow2
    have ca := applyO_con s r hs hr
    have her := apply_err s r
    have hqok : (applyS s r).1.Ok := apply_ok hs
    have hform : (may && recB r) = false → applyS s r = (zS, 1) := fun e => apply_form (by rw [← hmay]; exact e)
    have cb : may = true → recB r = true → Con P 26 [encSaga s, encRec r] (sagaE (applyS s r)) [] := fun e1 e2 => apply9_con s r hs hr (by rw [← hmay]; exact e1) e2
    generalize applyS s r = q at ca her hqok hform cb
    obtain ⟨y, e⟩ := q
    simp only at her hqok
    refine ⟨by omega, r.enc, hrow2, ?_⟩
    conv => whnf
    refine callU (copyRec_con r hr) (fun _ => rfl) ?_
    conv => whnf
    refine ⟨_, _, _, wk_refl _, ca, .inr ?_⟩
    conv => whnf
    have crec := rec9_con r hr
    obtain ⟨sp, hsp⟩ : ∃ sp : PV, sp = if (may && recB r) then encSteps y.steps else .sc (.slice none 0 0) := ⟨_, rfl⟩
    have wsp : WkL (.pv sp) (.pv (encSteps y.steps)) := by
      rw [hsp]
      cases hc : (may && recB r)
      · have := hform hc; cases this; exact wkN 6
      · exact wkE _
    refine AW.cut (fun _ : Unit => True) (fun _ => [(1, .lf (.ptr 0 0)), (3, Go.Rx.I i), (4, .lf (.ptr 1 0)), (5, Bl may), (13, .lf (.pv (encRecs l))), (14, Go.Rx.I k), (15, .lf (.ptr 2 0)), (16, .lf (.ptr 4 0)), (17, Go.Rx.I e), (18, Go.Rx.I e), (19, .lf (.ptr 5 0))])
      (fun _ => [askV R S N G, sagaV s, recV r, .arr 74 6 (y.steps.map Step.enc), .var [.pv (pI y.id), .pv (pS y.key), .pv (pS y.body), .own 3 y.steps.length, .pv (pI y.done), .pv (pB y.out), .pv (pB y.back), .pv (pI y.left), .pv (pI y.status)],
        .var [.pv (pI y.id), .pv (pS y.key), .pv (pS y.body), .pv sp, .pv (pI y.done), .pv (pB y.out), .pv (pB y.back), .pv (pI y.left), .pv (pI y.status)]]) [] (aw_of T_ok (by kernel_rfl) ?_) ?_
    · conv => whnf
      cases may with
      | false =>
        have hq := hform rfl
        have hy : y = zS := congrArg Prod.fst hq
        have he : e = 1 := congrArg Prod.snd hq
        clear hmay ca cb hform hq crec wsp
        subst hy
        subst he
        have hsp2 : sp = .sc (.slice none 0 0) := hsp
        subst hsp2
        conv => whnf
        exact ⟨(), trivial, ⟨rfl, rfl, rfl, rfl, rfl, rfl, rfl, rfl, rfl, rfl, rfl, trivial⟩, ⟨[], rfl⟩, rfl, rfl⟩
      | true =>
        conv => whnf
        refine ⟨by omega, r.enc, hrow2, ?_⟩
        conv => whnf
        refine callS crec rfl ?_
        conv => whnf
        split <;> rename_i hrb <;> conv => whnf
        · have hsp2 : sp = encSteps y.steps := by rw [hsp, show recB r = true from hrb]; rfl
          refine AW.draw T_ok rfl (seqPl 0 11) (by kernel_rfl) (by kernel_rfl) ?_
          conv => whnf
          refine ⟨by omega, r.enc, hrow2, ?_⟩
          conv => whnf
          refine callU (cb rfl hrb) (fun _ => rfl) ?_
          conv => whnf
          clear hmay ca cb hform crec wsp hsp
          subst hsp2
          exact ⟨(), trivial, ⟨rfl, rfl, rfl, rfl, rfl, rfl, rfl, rfl, rfl, rfl, rfl, trivial⟩, ⟨[], rfl⟩, rfl, rfl⟩
        · have hq := hform (by rw [show recB r = false from hrb]; rfl)
          have hy : y = zS := congrArg Prod.fst hq
          have he : e = 1 := congrArg Prod.snd hq
          have hsp2 : sp = .sc (.slice none 0 0) := by rw [hsp, show recB r = false from hrb]; rfl
          clear hmay ca cb hform hq crec wsp hsp
          subst hy
          subst he
          subst hsp2
          exact ⟨(), trivial, ⟨rfl, rfl, rfl, rfl, rfl, rfl, rfl, rfl, rfl, rfl, rfl, trivial⟩, ⟨[], rfl⟩, rfl, rfl⟩
    rintro _ _
    refine aw_of T_ok (by kernel_rfl) ?_
    conv => whnf
    refine AW.draw T_ok rfl (listPl [0, 2, 1, 3, 4, 5, 6, 7, 8, 9, 10, 11, 12, 13, 14, 15, 16, 17, 18, 19, 20, 21, 22, 23, 24, 25, 26, 27, 28]) (by kernel_rfl) (by kernel_rfl) ?_
    conv => whnf
    refine callS (num_con e her) rfl ?_
    conv => whnf
    split <;> rename_i t5 <;> conv => whnf
    · rw [neq_self] at t5; cases t5
    have hyl := hqok.steps.len
    have cxy := eqSaga_con y y hyl
    rw [decide_eq_true rfl] at cxy
    have css := eqSaga_con s s hs.steps.len
    rw [decide_eq_true rfl] at css
    have crr := eqRec_con r r hr.steps.len
    rw [decide_eq_true rfl] at crr
    refine ⟨List.length_map .., ?_⟩
    conv => whnf
    refine callW cxy ⟨.inl rfl, .inr (.inr ⟨_, _, rfl, rfl, wkE _, wkE _, wkE _, wsp, wkE _, wkE _, wkE _, wkE _, wkE _, trivial⟩), trivial⟩ rfl ?_
    conv => whnf
    refine ⟨by omega, s.enc, hrow, ?_⟩
    conv => whnf
    refine callS css rfl ?_
    conv => whnf
    refine ⟨by omega, r.enc, hrow2, ?_⟩
    conv => whnf
    refine callS crr rfl ?_
    conv => whnf
    refine ⟨[3], _, _, _, _, _, nodupB_ok rfl, rfl, rfl, wk_refl _, spoilSaga_con y hqok, ?_⟩
    conv => whnf
    refine AW.draw T_ok rfl (seqPl 0 8) (by kernel_rfl) (by kernel_rfl) ?_
    conv => whnf
    refine ⟨by omega, s.enc, hrow, ?_⟩
    conv => whnf
    refine callS css rfl ?_
    conv => whnf
    exact ⟨k + 1, ⟨by omega, by omega⟩, ⟨rfl, rfl, rfl, rfl, rfl, congrArg Go.Rx.I (wrapI (by omega)), trivial⟩, ⟨_, rfl⟩, rfl, rfl⟩
end Go.Proofs.Ytbfjcbhpbldlcaa.Rx
