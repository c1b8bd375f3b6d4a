/- Whatever is called, and undone, each act tells the same. -/
import Derived.Test.YtooiiihaijpbaaaRxD11
set_option linter.unusedVariables false
set_option linter.unusedSimpArgs false
namespace Go.Proofs.Ytooiiihaijpbaaa.Rx
open Go.Rx Go.Proofs Go.Proofs.Ytooiiihaijpbaaa.RxH

set_option maxHeartbeats 4000000 in
theorem ledgerExact_con (p : LScript) (h : p.Ok) : Con P 5 [encScript p] (Bl true) [] := by
  obtain ⟨bh, ch⟩ := heavy9_con p h
  have hll := h.ll
  have hlm : (p.l.map LAct.enc).length = p.l.length := List.length_map ..
  have cn := new_con p.service
  obtain ⟨n1, e1, hq⟩ : ∃ n1 e1, newP p.service = (n1, e1) := ⟨_, _, rfl⟩
  rw [hq] at cn
  have cb := between_con p.service 1 4
  rw [show (decide (1 ≤ p.service) && decide (p.service ≤ 4)) = svB p.service from rfl] at cb
  have cw := within_con p.service 4 (by decide)
  obtain ⟨s1, hs1⟩ : ∃ s1, s1 = IntKind.i64.wrap (1 + within p.service 4) := ⟨_, rfl⟩
  have x1ok : (⟨s1, [], []⟩ : Ledger).Ok := ⟨by show (0 : Nat) * 56 ≤ _; omega, by show (0 : Nat) * 8 ≤ _; omega, fun e he => by cases he⟩
  refine Con.of T_ok Try.func5 rfl (by kernel_rfl) (by kernel_rfl) (aw_ofC T_ok 1004 (by kernel_rfl) ?_)
  conv => whnf
  refine callS ch rfl ?_
  conv => whnf
  cases bh with
  | true =>
    conv => whnf
    exact finB ⟨rfl⟩
  | false =>
  conv => whnf
  refine callU cn (fun _ => rfl) ?_
  conv => whnf
  refine AW.cut (fun _ : Unit => True) (fun _ => [(1, .lf (.ptr 0 0))]) (fun _ => [scriptV p, ledgerV n1]) [] (aw_of T_ok (by kernel_rfl) ?_) ?_
  · conv => whnf
    cases hsv : svB p.service with
    | true =>
      rw [hsv] at cb
      have hn : n1 = ⟨p.service, [], []⟩ ∧ e1 = 0 := by rw [newP, if_pos hsv] at hq; cases hq; exact ⟨rfl, rfl⟩
      obtain ⟨hn, rfl⟩ := hn
      have ce := eqLedger_con n1 ⟨p.service, [], []⟩ (by rw [hn]; exact ⟨by show (0 : Nat) * 56 ≤ _; omega, by show (0 : Nat) * 8 ≤ _; omega, fun e he => by cases he⟩)
      rw [decide_eq_true hn] at ce
      refine callS cb rfl ?_
      conv => whnf
      refine callS (num_con 0 (by decide)) rfl ?_
      conv => whnf
      refine callS (num_con 0 (by decide)) rfl ?_
      conv => whnf
      refine callS (num_con 0 (by decide)) rfl ?_
      conv => whnf
      refine callW ce ⟨.inl rfl, .inr (.inr ⟨_, _, rfl, rfl, wkE _, wkN 5, wkN 1, trivial⟩), trivial⟩ rfl ?_
      conv => whnf
      exact ⟨(), trivial, ⟨rfl, trivial⟩, ⟨[], rfl⟩, rfl, rfl⟩
    | false =>
      rw [hsv] at cb
      have hn : n1 = zL ∧ e1 = 1 := by rw [newP, if_neg (by rw [hsv]; decide)] at hq; cases hq; exact ⟨rfl, rfl⟩
      obtain ⟨hn, rfl⟩ := hn
      have ce := eqLedger_con n1 zL (by rw [hn]; exact zL_ok)
      rw [decide_eq_true hn] at ce
      refine callS cb rfl ?_
      conv => whnf
      refine callS (num_con 1 (by decide)) rfl ?_
      conv => whnf
      refine callS (num_con 1 (by decide)) rfl ?_
      conv => whnf
      refine callW ce ⟨.inl rfl, .inr (.inr ⟨_, _, rfl, rfl, wkE _, wkN 5, wkN 1, trivial⟩), trivial⟩ rfl ?_
      conv => whnf
      refine callS (num_con 1 (by decide)) rfl ?_
      conv => whnf
      exact ⟨(), trivial, ⟨rfl, trivial⟩, ⟨[], rfl⟩, rfl, rfl⟩
  rintro _ _
  refine aw_of T_ok (by kernel_rfl) ?_
  conv => whnf
  refine AW.draw T_ok rfl (seqPl 0 9) (by kernel_rfl) (by kernel_rfl) ?_
  conv => whnf
  refine callS cw rfl ?_
  conv => whnf
  rw [← hs1]
  refine AW.loop (fun k : Nat => k ≤ 2) (fun k => [(1, .lf (.ptr 0 0)), (5, .lf (.own 2 2)), (6, Go.Rx.I k)]) (fun _ => [scriptV p, ledgerV n1, .arr 25 3 [p.g.enc, [pI s1, .sc (.slice none 0 0), .sc (.slice none 0 0)]]]) (fun k => 2 - k) [] ?_ ?_
  · exact ⟨0, by omega, ⟨rfl, rfl, rfl, trivial⟩, ⟨[], rfl⟩, rfl, rfl⟩
  rintro k hk
  refine aw_of T_ok (by kernel_rfl) ?_
  conv => whnf
  split <;> rename_i hlt <;> conv => whnf
  rotate_left
  · refine callS wakes_con rfl ?_
    conv => whnf
    exact finB ⟨rfl⟩
  have hk2 : k < 2 := by have := of_decide_eq_true hlt; omega
  obtain ⟨x0, hx0, hrow⟩ : ∃ x0 : Ledger, x0.Ok ∧ ∃ row, ([p.g.enc, [pI s1, .sc (.slice none 0 0), .sc (.slice none 0 0)]] : List (List PV))[k]? = some row ∧ row.length = 3 ∧ Fa WkL (row.map Lf.pv) [.pv (pI x0.service), .pv (encEntries x0.entries), .pv (encInts x0.known)] := by
    obtain rfl | rfl : k = 0 ∨ k = 1 := by omega
    · exact ⟨p.g, h.g, _, rfl, rfl, wkE _, wkE _, wkE _, trivial⟩
    · exact ⟨⟨s1, [], []⟩, x1ok, _, rfl, rfl, wkE _, wkN 5, wkN 1, trivial⟩
  obtain ⟨row, hr1, hr2, hr3⟩ := hrow
  obtain ⟨r1, r2, r3, rfl⟩ : ∃ r1 r2 r3, row = [r1, r2, r3] := by
    match row, hr2 with
    | [a, b, c], _ => exact ⟨a, b, c, rfl⟩
  refine ⟨rfl, by omega, by omega, ?_⟩
  conv => whnf
  refine ⟨rfl, rfl, [r1, r2, r3], by rw [Int.toNat_natCast]; exact hr1, ?_⟩
  conv => whnf
  refine callP (copyLedger_con x0 hx0) ⟨.inr (.inr ⟨_, _, rfl, rfl, hr3⟩), trivial⟩ (fun _ => rfl) ?_
  conv => whnf
  refine AW.loop (fun q : Nat × Ledger => q.1 ≤ p.l.length ∧ q.2.Ok) (fun q => [(1, .lf (.ptr 0 0)), (5, .lf (.own 2 2)), (6, Go.Rx.I k), (7, .lf (.ptr 3 0)), (8, Go.Rx.I q.1)]) (fun q => [scriptV p, ledgerV n1, .arr 25 3 [p.g.enc, [pI s1, .sc (.slice none 0 0), .sc (.slice none 0 0)]], ledgerV q.2]) (fun q => p.l.length - q.1) [] ?_ ?_
  · exact ⟨(0, x0), ⟨Nat.zero_le _, hx0⟩, ⟨rfl, rfl, rfl, rfl, rfl, trivial⟩, ⟨[], rfl⟩, rfl, rfl⟩
  rintro ⟨i, x⟩ ⟨hi, hx⟩
  simp only at hi hx
  refine aw_of T_ok (by kernel_rfl) ?_
  conv => whnf
  split <;> rename_i hlt2 <;> conv => whnf
  rotate_left
  · exact ⟨k + 1, ⟨by omega, by omega⟩, ⟨rfl, rfl, congrArg Go.Rx.I (wrapI (by omega)), trivial⟩, ⟨_, rfl⟩, rfl, rfl⟩
  have hil : i < p.l.length := by have := of_decide_eq_true hlt2; simp only at this; omega
  split <;> rename_i hlt3 <;> conv => whnf
  rotate_left
  · exact ⟨k + 1, ⟨by omega, by omega⟩, ⟨rfl, rfl, congrArg Go.Rx.I (wrapI (by omega)), trivial⟩, ⟨_, rfl⟩, rfl, rfl⟩
  have hw := h.each _ (List.getElem_mem hil)
  have cs := step_con x hx p.l[i] hw
  have hsk := step_ok hx hw
  have hrow2 : (p.l.map LAct.enc)[i]? = some (p.l[i]).enc := by simp [hil]
  generalize stepL x p.l[i] = y at cs hsk
  refine AW.draw T_ok rfl (.one 0 (.one 1 (.one 2 (.one 3 (.one 4 (.one 5 (.two 6 (listPl [7, 8, 9, 10, 11, 12]) 10 (listPl [6, 7, 8, 9, 11, 12])))))))) (by kernel_rfl) (by kernel_rfl) ?_
  conv => whnf
  refine ⟨by show (0 : Int) ≤ (i : Int); omega, (p.l[i]).enc, hrow2, ?_⟩
  conv => whnf
  refine ⟨?_, ?_⟩ <;> conv => whnf
  all_goals
    refine callP cs (wk_refl _) (fun _ => rfl) ?_
    conv => whnf
    exact ⟨(i + 1, y), ⟨⟨by simp only; omega, hsk⟩, by simp only; omega⟩, ⟨rfl, rfl, rfl, rfl, congrArg Go.Rx.I (wrapI (by simp only; omega)), trivial⟩, ⟨_, rfl⟩, rfl, rfl⟩
end Go.Proofs.Ytooiiihaijpbaaa.Rx
