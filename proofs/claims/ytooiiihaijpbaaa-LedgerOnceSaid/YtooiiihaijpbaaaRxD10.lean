/- An act on both. -/
import Derived.Test.YtooiiihaijpbaaaRxD9
set_option linter.unusedVariables false
set_option linter.unusedSimpArgs false
namespace Go.Rx
structure LAct where
  kind : Int
  key : Int
  of' : Int
  op : Int
  n : Int
  out : Int
  who : ByteArray
abbrev LAct.enc (a : LAct) : List PV := [pI a.kind, pI a.key, pI a.of', pI a.op, pI a.n, pI a.out, pS a.who]
abbrev encAct (a : LAct) : AV := .agg [.pv (pI a.kind), .pv (pI a.key), .pv (pI a.of'), .pv (pI a.op), .pv (pI a.n), .pv (pI a.out), .pv (pS a.who)]
abbrev actV (a : LAct) : Blk := .var [.pv (pI a.kind), .pv (pI a.key), .pv (pI a.of'), .pv (pI a.op), .pv (pI a.n), .pv (pI a.out), .pv (pS a.who)]
def pay : ByteArray := ⟨#[112, 97, 121]⟩
def ixO (a : LAct) : Int := within a.op 9 / 4
def opOf (g : Ledger) (a : LAct) : ByteArray := if svB g.service then ((opsS g.service ++ [pay])[(ixO a).toNat]?).getD ⟨#[]⟩ else ⟨#[]⟩
theorem opsS_two {n : Int} (h : svB n = true) : (opsS n).length = 2 := by
  have hn : 1 ≤ n ∧ n ≤ 4 := by simpa [svB] using h
  obtain rfl | rfl | rfl | rfl : n = 1 ∨ n = 2 ∨ n = 3 ∨ n = 4 := by omega
  all_goals rfl
theorem opsS_none {n : Int} (h : svB n = false) : opsS n = [] := by
  have hn : ¬ n = 1 ∧ ¬ n = 2 ∧ ¬ n = 3 ∧ ¬ n = 4 := by
    refine ⟨?_, ?_, ?_, ?_⟩ <;> (rintro rfl; cases h)
  rw [opsS, if_neg hn.1, if_neg hn.2.1, if_neg hn.2.2.1, if_neg hn.2.2.2]
theorem ixO_lt (a : LAct) : 0 ≤ ixO a ∧ ixO a < 3 := by
  have := within_lt (i := a.op) (n := 9) (by decide)
  unfold ixO
  omega
theorem opOf_get {g : Ledger} {a : LAct} (h : svB g.service = true) : (opsS g.service ++ [pay])[(ixO a).toNat]? = some (opOf g a) := by
  have h1 := ixO_lt a
  have h2 : (opsS g.service ++ [pay]).length = 3 := by rw [List.length_append, opsS_two h]; rfl
  rw [opOf, if_pos h, List.getElem?_eq_getElem (by omega)]
  rfl
theorem opOf_ok (g : Ledger) (a : LAct) : okS (opOf g a) := by
  have e0 : okS ⟨#[]⟩ := by decide
  cases h : svB g.service with
  | false => rw [opOf, if_neg (by rw [h]; decide)]; exact e0
  | true =>
    have hg := opOf_get (a := a) h
    have hm := List.mem_of_getElem? hg
    generalize opOf g a = x at hm
    have hn : 1 ≤ g.service ∧ g.service ≤ 4 := by simpa [svB] using h
    obtain e | e | e | e : g.service = 1 ∨ g.service = 2 ∨ g.service = 3 ∨ g.service = 4 := by omega
    all_goals
      rw [e] at hm
      simp only [opsS, List.mem_append, List.mem_singleton] at hm
      simp at hm
      rcases hm with (rfl | rfl) | rfl <;> decide
/-- What an act makes: the program's ledger, the answer, the error. -/
def actL (g : Ledger) (a : LAct) : Ledger × Int × Int := if 3 < within a.kind 8 then undoL g a.key a.of' (opOf g a) a.who a.n a.out else callL g a.key (opOf g a) a.who a.n a.out
def stepL (g : Ledger) (a : LAct) : Ledger := if within a.kind 8 = 6 ∨ within a.kind 8 = 7 then g else if (actL g a).2.2 = 0 then (actL g a).1 else g
theorem zL_ok : zL.Ok := ⟨by decide, by decide, fun e he => by cases he⟩
theorem call_ok {g : Ledger} (h : g.Ok) {k : Int} {op who : ByteArray} {n out : Int} (ho : okS op) (hw : okS who) : (callL g k op who n out).1.Ok := by
  by_cases hc : askB g k op who n out = true
  · rw [call_hap (of' := 0) hc]; exact hap_ok h (ask_parts hc).1 ho hw
  · rw [callL, if_neg hc]; exact zL_ok
theorem undo_ok {g : Ledger} (h : g.Ok) {k of' : Int} {op who : ByteArray} {n out : Int} (ho : okS op) (hw : okS who) : (undoL g k of' op who n out).1.Ok := by
  by_cases hc : askB g k op who n out = true ∧ 1 ≤ of' ∧ of' ≤ 1073741824
  · rw [undo_hap hc.1 hc.2]; exact hap_ok h (ask_parts hc.1).1 ho hw
  · rw [undoL, if_neg hc]; exact zL_ok
theorem step_ok {g : Ledger} (h : g.Ok) {a : LAct} (hw : okS a.who) : (stepL g a).Ok := by
  rw [stepL]; split
  · exact h
  split
  · rw [actL]; split
    · exact undo_ok h (opOf_ok g a) hw
    · exact call_ok h (opOf_ok g a) hw
  · exact h
theorem doL_err (g : Ledger) (x : Entry) (no : Bool) (out : Int) : (doL g x no out).2.2 = 0 ∨ (doL g x no out).2.2 = 7 := by
  rw [doL]; repeat' split
  all_goals simp
theorem call_err (g : Ledger) (k : Int) (op who : ByteArray) (n out : Int) : -9223372036854775808 ≤ (callL g k op who n out).2.2 ∧ (callL g k op who n out).2.2 ≤ 9223372036854775807 := by
  rw [callL]; split
  · rcases doL_err g ⟨k, false, op, who, n⟩ false out with h | h <;> omega
  · simp only; omega
theorem undo_err (g : Ledger) (k of' : Int) (op who : ByteArray) (n out : Int) : -9223372036854775808 ≤ (undoL g k of' op who n out).2.2 ∧ (undoL g k of' op who n out).2.2 ≤ 9223372036854775807 := by
  rw [undoL]; split
  · rcases doL_err g ⟨k, true, op, who, n⟩ (!(doneB g.entries of')) out with h | h <;> omega
  · simp only; omega
abbrev ledB (p : Ledger × Bool) : AV := .tup [tLedger p.1, .lf (.pv (pB p.2))]
theorem finLB {g : Ledger} {b : Bool} {q : Ledger × Bool} (h : Fin (g, b) q) : ∃ zs, Fa WkA [encLedger g, Bl b] zs ∧ pack zs = some (ledB q) := by
  refine ⟨_, wk_refl _, ?_⟩
  rw [← h.out]; rfl
end Go.Rx
namespace Go.Proofs.Ytooiiihaijpbaaa.Rx
open Go.Rx Go.Proofs Go.Proofs.Ytooiiihaijpbaaa.RxH

theorem copyStringsO_con (l : List ByteArray) (hl : l.length * 16 ≤ 140737488351232) : Con P 46 [.lf (.pv (encStrs l))] (.lf (.own 0 l.length)) [.arr 9 1 (l.map fun s => [pS s])] := by
  refine ConG.con (ConG.of T_ok Try.func46 rfl (by kernel_rfl) (by kernel_rfl) (aw_of T_ok (by kernel_rfl) ?_)) rfl
  conv => whnf
  refine AW.loop (fun k : Nat => k ≤ l.length) (fun k => [(0, .lf (.pv (encStrs l))), (3, .lf (.own 0 k)), (4, Go.Rx.I k)]) (fun k => [.arr 9 1 ((l.take k).map fun s => [pS s])]) (fun k => l.length - k) [.slot 3 9 1] ?_ ?_
  · exact ⟨rfl, 0, Nat.zero_le _, ⟨rfl, rfl, rfl, trivial⟩, ⟨[], rfl⟩, rfl, rfl⟩
  · intro k hk
    refine aw_of T_ok (by kernel_rfl) ?_
    conv => whnf
    split <;> rename_i hlt <;> conv => whnf
    · have hkl : k < l.length := by simp at hlt; omega
      refine ⟨by omega, [pS l[k]], by simp [hkl], ?_⟩
      conv => whnf
      refine ⟨rfl, _, .inl rfl, ?_⟩
      conv => whnf
      refine ⟨by simp; omega, by show (k + 1) * 16 ≤ _; omega, ?_⟩
      conv => whnf
      refine ⟨k + 1, ⟨by omega, by omega⟩, ⟨rfl, rfl, congrArg Go.Rx.I (wrapI (by omega)), trivial⟩, ⟨[?r], ?e⟩, rfl, rfl⟩
      case e => show _ = [Blk.arr _ _ (List.map (fun s => [pS s]) (l.take (k + 1)))] ++ [_]; rw [take_succ' hkl, List.map_append]; rfl
    · have hkl : k = l.length := by simp at hlt; omega
      subst hkl
      refine ⟨[], [0], [.lf (.own 0 l.length)], [.lf (.own 0 l.length)], rfl, ?_, rfl, wk_refl _, rfl⟩
      show some [Blk.arr _ 1 ((l.take l.length).map fun s => [pS s])] = _
      rw [List.take_length]
abbrev zeroV : Blk := .var [.pv (pI 0), .pv (.sc (.slice none 0 0)), .pv (.sc (.slice none 0 0))]
set_option maxHeartbeats 4000000 in
theorem step_con (g : Ledger) (h : g.Ok) (a : LAct) (hw : okS a.who) : Con P 29 [encLedger g, encAct a] (ledB (stepL g a, true)) [] := by
  obtain ⟨g', hg'⟩ : ∃ g', g' = stepL g a := ⟨_, rfl⟩
  rw [← hg']
  have hol := opsS_len g.service
  obtain ⟨ops, hops⟩ : ∃ ops, ops = opsS g.service := ⟨_, rfl⟩
  have co := ops4_con g.service
  rw [← hops] at co
  have hom : (ops.map fun s => [pS s]).length = ops.length := List.length_map ..
  refine Con.of T_ok Try.func29 rfl (by kernel_rfl) (by kernel_rfl) (aw_ofC T_ok 1004 (by kernel_rfl) ?_)
  conv => whnf
  refine callU (copyLedger_con g h) (fun _ => rfl) ?_
  conv => whnf
  refine callS (ledger9_con g h) rfl ?_
  conv => whnf
  refine AW.cut (fun _ : Unit => True) (fun _ => [(2, .lf (.ptr 0 0)), (3, .lf (.ptr 1 0)), (4, .lf (.ptr 2 0)), (6, .lf (.ptr 3 0)), (7, Bl (ledgerB g)), (8, Sx (opOf g a))]) (fun _ => [ledgerV g, actV a, zeroV, ledgerV g]) [] (aw_of T_ok (by kernel_rfl) ?_) ?_
  · conv => whnf
    refine callU co (fun _ => rfl) ?_
    conv => whnf
    cases hsv : svB g.service with
    | false =>
      have h0 : ops = [] := hops.trans (opsS_none hsv)
      have ho : opOf g a = ⟨#[]⟩ := by rw [opOf, if_neg (by rw [hsv]; decide)]
      subst h0
      conv => whnf
      exact ⟨(), trivial, ⟨rfl, rfl, rfl, rfl, rfl, congrArg Sx ho.symm, trivial⟩, ⟨_, rfl⟩, rfl, rfl⟩
    | true =>
      have h2 : ops.length = 2 := by rw [hops]; exact opsS_two hsv
      have hget := opOf_get (a := a) hsv
      rw [← hops] at hget
      have hix := ixO_lt a
      have hwl := within_lt (i := a.op) (n := 9) (by decide)
      split <;> rename_i h3 <;> conv => whnf
      rotate_left
      · rw [hom, h2] at h3; cases h3
      refine AW.draw T_ok rfl (.one 0 (.pre 4 (.pre 5 (.two 1 (listPl [2, 3, 6, 7, 8, 9, 10]) 2 (listPl [1, 3, 6, 7, 8, 9, 10]))))) (by kernel_rfl) (by kernel_rfl) ?_
      conv => whnf
      refine ⟨?_, ?_⟩ <;> conv => whnf
      all_goals
        refine ⟨_, _, _, wk_refl _, copyStringsO_con ops (by omega), .inr ?_⟩
        conv => whnf
        refine ⟨rfl, _, .inl rfl, ?_⟩
        conv => whnf
        refine ⟨hom, by show (ops.length + 1) * 16 ≤ _; omega, ?_⟩
        conv => whnf
        refine callS (within_con a.op 9 (by decide)) rfl ?_
        conv => whnf
        refine ⟨hwl.1, by decide, by omega, ?_⟩
        conv => whnf
        refine ⟨by simp [chunk], hix.1, by show ixO a < ((ops.length + 1 : Nat) : Int); omega, ?_⟩
        conv => whnf
        refine ⟨rfl, by simp [chunk], [pS (opOf g a)], ?_, ?_⟩
        · show (ops.map (fun s => [pS s]) ++ [[pS pay]])[(ixO a).toNat]? = _
          rw [show ops.map (fun s => [pS s]) ++ [[pS pay]] = (ops ++ [pay]).map (fun s => [pS s]) by simp, List.getElem?_map, hget]
          rfl
        conv => whnf
        exact ⟨(), trivial, ⟨rfl, rfl, rfl, rfl, rfl, rfl, trivial⟩, ⟨_, rfl⟩, rfl, rfl⟩
  rintro _ _
  have cwk := within_con a.kind 8 (by decide)
  obtain ⟨wk, hwk⟩ : ∃ wk, wk = within a.kind 8 := ⟨_, rfl⟩
  rw [← hwk] at cwk
  have ci := in_con g.known a.key h.kl
  have hin := in_known' g.known a.key
  obtain ⟨ix, hix⟩ : ∃ ix, ix = idxL (fun y => y == a.key) g.known 0 := ⟨_, rfl⟩
  rw [← hix] at ci hin
  have ceq := eqLedger_con g g h
  rw [decide_eq_true rfl] at ceq
  have ch := has9_con g h a.key
  have cs := sum_con g h a.who
  have hdk : (actL g a).1.Ok := by
    rw [actL]; split
    · exact undo_ok h (opOf_ok g a) hw
    · exact call_ok h (opOf_ok g a) hw
  have hde : -9223372036854775808 ≤ (actL g a).2.2 ∧ (actL g a).2.2 ≤ 9223372036854775807 := by
    rw [actL]; split
    · exact undo_err ..
    · exact call_err ..
  have cu : 3 < wk → Con P 17 [encLedger g, I a.key, I a.of', Sx (opOf g a), Sx a.who, I a.n, I a.out] (ledO (actL g a)) (nbO (actL g a).1) := fun e => by
    rw [actL, ← hwk, if_pos e]; exact undo_con g h a.key a.of' (opOf g a) a.who a.n a.out
  have cc : ¬ 3 < wk → Con P 16 [encLedger g, I a.key, Sx (opOf g a), Sx a.who, I a.n, I a.out] (ledO (actL g a)) (nbO (actL g a).1) := fun e => by
    rw [actL, ← hwk, if_neg e]; exact call_con g h a.key (opOf g a) a.who a.n a.out
  obtain ⟨d, hd⟩ : ∃ d, d = actL g a := ⟨_, rfl⟩
  rw [← hd] at hdk hde cu cc
  have cdd := eqLedger_con d.1 d.1 hdk
  rw [decide_eq_true rfl] at cdd
  have cz := eqLedger_con zL zL zL_ok
  rw [decide_eq_true rfl] at cz
  cases hB : ledgerB g with
  | false =>
    rw [hasP, if_neg (by rw [hB]; decide)] at ch
    rw [sumP, if_neg (by rw [hB]; decide)] at cs
    refine aw_ofC T_ok 1024 (by kernel_rfl) ?_
    conv => whnf
    refine callS cwk rfl ?_
    conv => whnf
    split <;> rename_i h6 <;> conv => whnf
    · have hd2 : g' = g := hg'.trans (by rw [stepL, if_pos (.inl (hwk.symm.trans (eq_of_beq h6)))])
      refine callS ch rfl ?_
      conv => whnf
      refine AW.draw T_ok rfl (listPl [0, 1, 3, 2, 4, 5, 6, 7, 8, 9, 10, 11, 12, 13, 14, 15, 16]) (by kernel_rfl) (by kernel_rfl) ?_
      conv => whnf
      refine callS (num_con 1 (by decide)) rfl ?_
      conv => whnf
      refine callS ceq rfl ?_
      conv => whnf
      exact finLB ⟨by rw [hd2]⟩
    split <;> rename_i h7 <;> conv => whnf
    · have hd2 : g' = g := hg'.trans (by rw [stepL, if_pos (.inr (hwk.symm.trans (eq_of_beq h7)))])
      refine callS cs rfl ?_
      conv => whnf
      refine AW.draw T_ok rfl (listPl [0, 1, 3, 2, 4, 5, 6, 7, 8, 9, 10, 11, 12, 13, 14, 15, 16]) (by kernel_rfl) (by kernel_rfl) ?_
      conv => whnf
      refine callS (num_con 1 (by decide)) rfl ?_
      conv => whnf
      refine callS ceq rfl ?_
      conv => whnf
      exact finLB ⟨by rw [hd2]⟩
    have hwn : ¬ (wk = 6 ∨ wk = 7) := by
      rintro (e | e)
      · rw [show (wk == 6) = true from beq_iff_eq.2 e] at h6; cases h6
      · rw [show (wk == 7) = true from beq_iff_eq.2 e] at h7; cases h7
    refine callS cwk rfl ?_
    conv => whnf
    refine AW.cut (fun _ : Unit => True) (fun _ => [(2, .lf (.ptr 0 0)), (3, .lf (.ptr 1 0)), (4, .lf (.ptr 2 0)), (6, .lf (.ptr 3 0)), (7, Bl false), (8, Sx (opOf g a)), (18, Bl (decide (3 < wk))), (19, .lf (.ptr 4 0)), (20, Go.Rx.I d.2.1), (21, Go.Rx.I d.2.2)])
      (fun _ => [ledgerV g, actV a, zeroV, ledgerV g, .var [.pv (pI d.1.service), .own 5 d.1.entries.length, .own 6 d.1.known.length]] ++ nbO d.1) [] (aw_of T_ok (by kernel_rfl) ?_) ?_
    · conv => whnf
      split <;> rename_i h3 <;> conv => whnf
      · refine ⟨_, _, _, wk_refl _, cu (of_decide_eq_true h3), .inr ?_⟩
        conv => whnf
        exact ⟨(), trivial, ⟨rfl, rfl, rfl, rfl, rfl, rfl, rfl, rfl, rfl, rfl, trivial⟩, ⟨[], rfl⟩, rfl, rfl⟩
      · refine ⟨_, _, _, wk_refl _, cc (of_decide_eq_false h3), .inr ?_⟩
        conv => whnf
        exact ⟨(), trivial, ⟨rfl, rfl, rfl, rfl, rfl, rfl, rfl, rfl, rfl, rfl, trivial⟩, ⟨[], rfl⟩, rfl, rfl⟩
    rintro _ _
    clear cu cc cwk ch cs ci
    have hask : ∀ o, ¬ askB g a.key o a.who a.n a.out = true := fun o e => by rw [askB, hB] at e; cases e
    have hd2 : d = (zL, 0, 1) := hd.trans (by
      rw [actL]; split
      · rw [undoL, if_neg (fun e => hask _ e.1)]
      · rw [callL, if_neg (hask _)])
    have hgz : g' = g := hg'.trans (by rw [stepL, ← hwk, if_neg hwn, ← hd, hd2]; rfl)
    have ck := check_con g h
    rw [if_neg (by rw [hB]; decide)] at ck
    clear hd hdk hde cdd
    subst hd2
    refine aw_of T_ok (by kernel_rfl) ?_
    conv => whnf
    refine callS (num_con 1 (by decide)) rfl ?_
    conv => whnf
    refine ⟨rfl, ?_⟩
    conv => whnf
    refine ⟨rfl, ?_⟩
    conv => whnf
    refine callW cz ⟨.inl rfl, .inr (.inr ⟨_, _, rfl, rfl, wkE _, wkN 5, wkN 1, trivial⟩), trivial⟩ rfl ?_
    conv => whnf
    refine callS ceq rfl ?_
    conv => whnf
    refine callS ck rfl ?_
    conv => whnf
    refine callS (num_con 1 (by decide)) rfl ?_
    conv => whnf
    refine ⟨[5, 6], _, _, _, _, _, nodupB_ok rfl, rfl, rfl, wk_refl _, spoilLedger_con zL zL_ok, ?_⟩
    conv => whnf
    refine callS ceq rfl ?_
    conv => whnf
    exact finLB ⟨by rw [hgz]⟩
  | true =>
    have hp := ledger_parts hB
    have c9 := sum9_con g h hp.1 a.who
    rw [hasP, if_pos hB] at ch
    rw [sumP, if_pos hB] at cs
    refine aw_ofC T_ok 1024 (by kernel_rfl) ?_
    conv => whnf
    refine callS cwk rfl ?_
    conv => whnf
    split <;> rename_i h6 <;> conv => whnf
    · have hd2 : g' = g := hg'.trans (by rw [stepL, if_pos (.inl (hwk.symm.trans (eq_of_beq h6)))])
      refine callS ch rfl ?_
      conv => whnf
      refine callS ci rfl ?_
      conv => whnf
      refine AW.draw T_ok rfl (listPl [0, 1, 3, 2, 4, 5, 6, 7, 8, 9, 10, 11, 12, 13, 14, 15, 16]) (by kernel_rfl) (by kernel_rfl) ?_
      conv => whnf
      refine callS (num_con 0 (by decide)) rfl ?_
      conv => whnf
      split <;> rename_i h8 <;> conv => whnf
      · refine callS ceq rfl ?_
        conv => whnf
        exact finLB ⟨by rw [hd2]⟩
      · rw [show decide (ix ≥ 0) = g.known.contains a.key from hin] at h8
        simp at h8
    split <;> rename_i h7 <;> conv => whnf
    · have hd2 : g' = g := hg'.trans (by rw [stepL, if_pos (.inr (hwk.symm.trans (eq_of_beq h7)))])
      refine callS cs rfl ?_
      conv => whnf
      refine callS c9 rfl ?_
      conv => whnf
      refine AW.draw T_ok rfl (listPl [0, 1, 3, 2, 4, 5, 6, 7, 8, 9, 10, 11, 12, 13, 14, 15, 16]) (by kernel_rfl) (by kernel_rfl) ?_
      conv => whnf
      refine callS (num_con 0 (by decide)) rfl ?_
      conv => whnf
      split <;> rename_i h8 <;> conv => whnf
      · refine callS ceq rfl ?_
        conv => whnf
        exact finLB ⟨by rw [hd2]⟩
      · rw [show (sumL g a.who == sumL g a.who) = true from beq_self_eq_true _] at h8
        cases h8
    have hwn : ¬ (wk = 6 ∨ wk = 7) := by
      rintro (e | e)
      · rw [show (wk == 6) = true from beq_iff_eq.2 e] at h6; cases h6
      · rw [show (wk == 7) = true from beq_iff_eq.2 e] at h7; cases h7
    refine callS cwk rfl ?_
    conv => whnf
    refine AW.cut (fun _ : Unit => True) (fun _ => [(2, .lf (.ptr 0 0)), (3, .lf (.ptr 1 0)), (4, .lf (.ptr 2 0)), (6, .lf (.ptr 3 0)), (7, Bl true), (8, Sx (opOf g a)), (18, Bl (decide (3 < wk))), (19, .lf (.ptr 4 0)), (20, Go.Rx.I d.2.1), (21, Go.Rx.I d.2.2)])
      (fun _ => [ledgerV g, actV a, zeroV, ledgerV g, .var [.pv (pI d.1.service), .own 5 d.1.entries.length, .own 6 d.1.known.length]] ++ nbO d.1) [] (aw_of T_ok (by kernel_rfl) ?_) ?_
    · conv => whnf
      split <;> rename_i h3 <;> conv => whnf
      · refine ⟨_, _, _, wk_refl _, cu (of_decide_eq_true h3), .inr ?_⟩
        conv => whnf
        exact ⟨(), trivial, ⟨rfl, rfl, rfl, rfl, rfl, rfl, rfl, rfl, rfl, rfl, trivial⟩, ⟨[], rfl⟩, rfl, rfl⟩
      · refine ⟨_, _, _, wk_refl _, cc (of_decide_eq_false h3), .inr ?_⟩
        conv => whnf
        exact ⟨(), trivial, ⟨rfl, rfl, rfl, rfl, rfl, rfl, rfl, rfl, rfl, rfl, trivial⟩, ⟨[], rfl⟩, rfl, rfl⟩
    rintro _ _
    clear cu cc cwk ch cs ci
    have ck := check_con g h
    rw [if_pos hB] at ck
    have cm := mayCall_con g a.key (opOf g a) a.who a.n a.out hw
    have hgn' : ¬ d.2.2 = 0 → g' = g := fun e => hg'.trans (by rw [stepL, ← hwk, if_neg hwn, ← hd, if_neg e])
    have hgo' : d.2.2 = 0 → g' = d.1 := fun e => hg'.trans (by rw [stepL, ← hwk, if_neg hwn, ← hd, if_pos e])
    cases hM : (keyB a.key && deedB g.service (opOf g a) a.who a.n && outB a.out) with
    | false =>
      rw [hM] at cm
      have hask : ¬ askB g a.key (opOf g a) a.who a.n a.out = true := fun e => by rw [askB, hB, hM] at e; cases e
      have hd2 : d = (zL, 0, 1) := hd.trans (by
        rw [actL]; split
        · rw [undoL, if_neg (fun e => hask e.1)]
        · rw [callL, if_neg hask])
      have hgz : g' = g := hgn' (by rw [hd2]; decide)
      clear hd hdk hde cdd hgn' hgo'
      subst hd2
      refine aw_of T_ok (by kernel_rfl) ?_
      conv => whnf
      refine callS cm rfl ?_
      conv => whnf
      refine callS (num_con 1 (by decide)) rfl ?_
      conv => whnf
      refine ⟨rfl, ?_⟩
      conv => whnf
      refine ⟨rfl, ?_⟩
      conv => whnf
      refine callW cz ⟨.inl rfl, .inr (.inr ⟨_, _, rfl, rfl, wkE _, wkN 5, wkN 1, trivial⟩), trivial⟩ rfl ?_
      conv => whnf
      refine callS ceq rfl ?_
      conv => whnf
      refine callS ck rfl ?_
      conv => whnf
      refine callS (num_con 0 (by decide)) rfl ?_
      conv => whnf
      refine ⟨[5, 6], _, _, _, _, _, nodupB_ok rfl, rfl, rfl, wk_refl _, spoilLedger_con zL zL_ok, ?_⟩
      conv => whnf
      refine callS ceq rfl ?_
      conv => whnf
      exact finLB ⟨by rw [hgz]⟩
    | true =>
      rw [hM] at cm
      have hask : askB g a.key (opOf g a) a.who a.n a.out = true := by rw [askB, hB, hM]; rfl
      have cb := between_con a.of' 1 1073741824
      by_cases hb3 : 3 < wk
      · rw [decide_eq_true hb3]
        cases hR : (decide (1 ≤ a.of') && decide (a.of' ≤ 1073741824)) with
        | false =>
          rw [hR] at cb
          have hr' : ¬ (1 ≤ a.of' ∧ a.of' ≤ 1073741824) := fun e => by rw [decide_eq_true e.1, decide_eq_true e.2] at hR; cases hR
          have hd2 : d = (zL, 0, 1) := hd.trans (by rw [actL, ← hwk, if_pos hb3, undoL, if_neg (fun e => hr' e.2)])
          have hgz : g' = g := hgn' (by rw [hd2]; decide)
          clear hd hdk hde cdd hgn' hgo'
          subst hd2
          refine aw_of T_ok (by kernel_rfl) ?_
          conv => whnf
          refine callS cm rfl ?_
          conv => whnf
          refine callS cb rfl ?_
          conv => whnf
          refine callS (num_con 1 (by decide)) rfl ?_
          conv => whnf
          refine ⟨rfl, ?_⟩
          conv => whnf
          refine ⟨rfl, ?_⟩
          conv => whnf
          refine callW cz ⟨.inl rfl, .inr (.inr ⟨_, _, rfl, rfl, wkE _, wkN 5, wkN 1, trivial⟩), trivial⟩ rfl ?_
          conv => whnf
          refine callS ceq rfl ?_
          conv => whnf
          refine callS ck rfl ?_
          conv => whnf
          refine callS (num_con 0 (by decide)) rfl ?_
          conv => whnf
          refine ⟨[5, 6], _, _, _, _, _, nodupB_ok rfl, rfl, rfl, wk_refl _, spoilLedger_con zL zL_ok, ?_⟩
          conv => whnf
          refine callS ceq rfl ?_
          conv => whnf
          exact finLB ⟨by rw [hgz]⟩
        | true =>
          rw [hR] at cb
          have hr' : 1 ≤ a.of' ∧ a.of' ≤ 1073741824 := by simpa using hR
          have chp := happens_con g h a.key a.of' true (opOf g a) a.who a.n a.out
          rw [← undo_hap hask hr', ← show actL g a = undoL g a.key a.of' (opOf g a) a.who a.n a.out by rw [actL, ← hwk, if_pos hb3], ← hd] at chp
          have hgn := hgn'
          have hgo := hgo'
          clear hgn' hgo' hd
          refine aw_of T_ok (by kernel_rfl) ?_
          conv => whnf
          refine callS cm rfl ?_
          conv => whnf
          refine callS cb rfl ?_
          conv => whnf
          refine callP chp (wk_refl _) (fun _ => rfl) ?_
          conv => whnf
          refine callS (num_con d.2.2 hde) rfl ?_
          conv => whnf
          split <;> rename_i q1 <;> conv => whnf
          · rw [show (d.2.2 != d.2.2) = false by simp] at q1; cases q1
          split <;> rename_i q2 <;> conv => whnf
          · rw [show (d.2.1 != d.2.1) = false by simp] at q2; cases q2
          refine ⟨List.length_map .., ?_⟩
          conv => whnf
          refine ⟨List.length_map .., ?_⟩
          conv => whnf
          refine callS cdd rfl ?_
          conv => whnf
          refine callS ceq rfl ?_
          conv => whnf
          refine callS ck rfl ?_
          conv => whnf
          refine callS (num_con 0 (by decide)) rfl ?_
          conv => whnf
          refine ⟨[5, 6], _, _, _, _, _, nodupB_ok rfl, rfl, rfl, wk_refl _, spoilLedger_con d.1 hdk, ?_⟩
          conv => whnf
          refine callS ceq rfl ?_
          conv => whnf
          split <;> rename_i q3 <;> conv => whnf
          · have q4 : ¬ d.2.2 = 0 := by have q5 : (d.2.2 != 0) = true := q3; simpa using q5
            exact finLB ⟨by rw [hgn q4]⟩
          · have q4 : d.2.2 = 0 := by have q5 : (d.2.2 != 0) = false := q3; simpa using q5
            refine callU (copyLedger_con d.1 hdk) (fun _ => rfl) ?_
            conv => whnf
            exact finLB ⟨by rw [hgo q4]⟩
      · rw [decide_eq_false hb3]
        have chp := happens_con g h a.key a.of' false (opOf g a) a.who a.n a.out
        rw [← call_hap hask, ← show actL g a = callL g a.key (opOf g a) a.who a.n a.out by rw [actL, ← hwk, if_neg hb3], ← hd] at chp
        have hgn := hgn'
        have hgo := hgo'
        clear hgn' hgo' hd
        refine aw_of T_ok (by kernel_rfl) ?_
        conv => whnf
        refine callS cm rfl ?_
        conv => whnf
        refine callP chp (wk_refl _) (fun _ => rfl) ?_
        conv => whnf
        refine callS (num_con d.2.2 hde) rfl ?_
        conv => whnf
        split <;> rename_i q1 <;> conv => whnf
        · rw [show (d.2.2 != d.2.2) = false by simp] at q1; cases q1
        split <;> rename_i q2 <;> conv => whnf
        · rw [show (d.2.1 != d.2.1) = false by simp] at q2; cases q2
        refine ⟨List.length_map .., ?_⟩
        conv => whnf
        refine ⟨List.length_map .., ?_⟩
        conv => whnf
        refine callS cdd rfl ?_
        conv => whnf
        refine callS ceq rfl ?_
        conv => whnf
        refine callS ck rfl ?_
        conv => whnf
        refine callS (num_con 0 (by decide)) rfl ?_
        conv => whnf
        refine ⟨[5, 6], _, _, _, _, _, nodupB_ok rfl, rfl, rfl, wk_refl _, spoilLedger_con d.1 hdk, ?_⟩
        conv => whnf
        refine callS ceq rfl ?_
        conv => whnf
        split <;> rename_i q3 <;> conv => whnf
        · have q4 : ¬ d.2.2 = 0 := by have q5 : (d.2.2 != 0) = true := q3; simpa using q5
          exact finLB ⟨by rw [hgn q4]⟩
        · have q4 : d.2.2 = 0 := by have q5 : (d.2.2 != 0) = false := q3; simpa using q5
          refine callU (copyLedger_con d.1 hdk) (fun _ => rfl) ?_
          conv => whnf
          exact finLB ⟨by rw [hgo q4]⟩
end Go.Proofs.Ytooiiihaijpbaaa.Rx
