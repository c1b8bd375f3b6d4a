/- A call, and its undoing. -/
import Derived.Test.YtooiiihaijpbaaaRxD6
set_option linter.unusedVariables false
set_option linter.unusedSimpArgs false
namespace Go.Rx
def callL (g : Ledger) (k : Int) (op who : ByteArray) (n out : Int) : Ledger × Int × Int := if askB g k op who n out = true then doL g ⟨k, false, op, who, n⟩ false out else (zL, 0, 1)
def undoL (g : Ledger) (k of' : Int) (op who : ByteArray) (n out : Int) : Ledger × Int × Int := if askB g k op who n out = true ∧ 1 ≤ of' ∧ of' ≤ 1073741824 then doL g ⟨k, true, op, who, n⟩ (!(doneB g.entries of')) out else (zL, 0, 1)
theorem ask_sorted {g : Ledger} {k : Int} {op who : ByteArray} {n out : Int} (h : askB g k op who n out = true) : g.known.Pairwise (· < ·) := by
  rw [askB, Bool.and_eq_true] at h
  exact known_sorted (ledger_parts h.1).2.2.1
end Go.Rx
namespace Go.Proofs.Ytooiiihaijpbaaa.Rx
open Go.Rx Go.Proofs Go.Proofs.Ytooiiihaijpbaaa.RxH

theorem call_con (g : Ledger) (h : g.Ok) (k : Int) (op who : ByteArray) (n out : Int) : Con P 16 [encLedger g, I k, Sx op, Sx who, I n, I out] (ledO (callL g k op who n out)) (nbO (callL g k op who n out).1) := by
  obtain ⟨d, hd⟩ : ∃ d, d = callL g k op who n out := ⟨_, rfl⟩
  rw [← hd]
  have ca := asked_con g h k op who n out
  refine ConG.con (ConG.of T_ok Try.func16 rfl (by kernel_rfl) (by kernel_rfl) (aw_of T_ok (by kernel_rfl) ?_)) rfl
  conv => whnf
  cases hc : askB g k op who n out with
  | false =>
    rw [hc] at ca
    refine callS ca rfl ?_
    conv => whnf
    have hd2 : d = (zL, 0, 1) := hd.trans (by rw [callL, if_neg (by rw [hc]; decide)])
    subst hd2
    exact ⟨[.cell 1 1 50 5, .cell 1 2 3 1], ⟨rfl, rfl, [2, 3], [.agg [.pv (pI 0), .own 0 0, .own 1 0], Go.Rx.I 0, Go.Rx.I 1], [.agg [.pv (pI 0), .own 0 0, .own 1 0], Go.Rx.I 0, Go.Rx.I 1], rfl, rfl, rfl, wk_refl _, rfl⟩⟩
  | true =>
    rw [hc] at ca
    have cd := do_con g h (ask_sorted hc) ⟨k, false, op, who, n⟩ false out
    have hd2 : d = doL g ⟨k, false, op, who, n⟩ false out := hd.trans (by rw [callL, if_pos hc])
    rw [← hd2] at cd
    clear hd hd2
    refine callS ca rfl ?_
    conv => whnf
    refine ⟨_, _, _, wk_refl _, cd, .inr ?_⟩
    conv => whnf
    exact ⟨[], [2, 3], [.agg [.pv (pI d.1.service), .own 0 d.1.entries.length, .own 1 d.1.known.length], Go.Rx.I d.2.1, Go.Rx.I d.2.2], [.agg [.pv (pI d.1.service), .own 0 d.1.entries.length, .own 1 d.1.known.length], Go.Rx.I d.2.1, Go.Rx.I d.2.2], rfl, rfl, rfl, wk_refl _, rfl⟩
theorem undo_con (g : Ledger) (h : g.Ok) (k of' : Int) (op who : ByteArray) (n out : Int) : Con P 17 [encLedger g, I k, I of', Sx op, Sx who, I n, I out] (ledO (undoL g k of' op who n out)) (nbO (undoL g k of' op who n out).1) := by
  obtain ⟨d, hd⟩ : ∃ d, d = undoL g k of' op who n out := ⟨_, rfl⟩
  rw [← hd]
  have ca := asked_con g h k op who n out
  have bad : ¬ (askB g k op who n out = true ∧ 1 ≤ of' ∧ of' ≤ 1073741824) → d = (zL, 0, 1) := fun e => hd.trans (by rw [undoL, if_neg e])
  refine ConG.con (ConG.of T_ok Try.func17 rfl (by kernel_rfl) (by kernel_rfl) (aw_of T_ok (by kernel_rfl) ?_)) rfl
  conv => whnf
  cases hc : askB g k op who n out with
  | false =>
    rw [hc] at ca
    refine callS ca rfl ?_
    conv => whnf
    have hd2 : d = (zL, 0, 1) := bad (by rw [hc]; simp)
    clear bad hd
    subst hd2
    exact ⟨[.cell 1 1 50 5, .cell 1 2 3 1], ⟨rfl, rfl, [2, 3], [.agg [.pv (pI 0), .own 0 0, .own 1 0], Go.Rx.I 0, Go.Rx.I 1], [.agg [.pv (pI 0), .own 0 0, .own 1 0], Go.Rx.I 0, Go.Rx.I 1], rfl, rfl, rfl, wk_refl _, rfl⟩⟩
  | true =>
    rw [hc] at ca
    refine callS ca rfl ?_
    conv => whnf
    split <;> rename_i h1 <;> conv => whnf
    · have h1' : of' < 1 := of_decide_eq_true h1
      have hd2 : d = (zL, 0, 1) := bad (by omega)
      clear bad hd
      subst hd2
      exact ⟨[.cell 1 1 50 5, .cell 1 2 3 1], ⟨rfl, rfl, [2, 3], [.agg [.pv (pI 0), .own 0 0, .own 1 0], Go.Rx.I 0, Go.Rx.I 1], [.agg [.pv (pI 0), .own 0 0, .own 1 0], Go.Rx.I 0, Go.Rx.I 1], rfl, rfl, rfl, wk_refl _, rfl⟩⟩
    have h1' : ¬ of' < 1 := of_decide_eq_false h1
    split <;> rename_i h2 <;> conv => whnf
    · have h2' : 1073741824 < of' := of_decide_eq_true h2
      have hd2 : d = (zL, 0, 1) := bad (by omega)
      clear bad hd
      subst hd2
      exact ⟨[.cell 1 1 50 5, .cell 1 2 3 1], ⟨rfl, rfl, [2, 3], [.agg [.pv (pI 0), .own 0 0, .own 1 0], Go.Rx.I 0, Go.Rx.I 1], [.agg [.pv (pI 0), .own 0 0, .own 1 0], Go.Rx.I 0, Go.Rx.I 1], rfl, rfl, rfl, wk_refl _, rfl⟩⟩
    have h2' : ¬ 1073741824 < of' := of_decide_eq_false h2
    have cd := do_con g h (ask_sorted hc) ⟨k, true, op, who, n⟩ (!(doneB g.entries of')) out
    have hd2 : d = doL g ⟨k, true, op, who, n⟩ (!(doneB g.entries of')) out := hd.trans (by rw [undoL, if_pos ⟨hc, by omega, by omega⟩])
    rw [← hd2] at cd
    clear hd hd2 bad
    refine AW.draw T_ok rfl (listPl [0, 1, 2, 3, 4, 5, 6, 7, 10, 8, 9, 11, 12, 13, 14, 15, 16, 17]) (by kernel_rfl) (by kernel_rfl) ?_
    conv => whnf
    refine callS (done_con g h of') rfl ?_
    conv => whnf
    refine ⟨_, _, _, wk_refl _, cd, .inr ?_⟩
    conv => whnf
    exact ⟨[], [2, 3], [.agg [.pv (pI d.1.service), .own 0 d.1.entries.length, .own 1 d.1.known.length], Go.Rx.I d.2.1, Go.Rx.I d.2.2], [.agg [.pv (pI d.1.service), .own 0 d.1.entries.length, .own 1 d.1.known.length], Go.Rx.I d.2.1, Go.Rx.I d.2.2], rfl, rfl, rfl, wk_refl _, rfl⟩
end Go.Proofs.Ytooiiihaijpbaaa.Rx
