/- Copies of the call's own; what a call does to a ledger. -/
import Derived.Test.YtooiiihaijpbaaaRxD5
set_option linter.unusedVariables false
set_option linter.unusedSimpArgs false
namespace Go.Rx
abbrev intRows (l : List Int) : List (List PV) := l.map fun n => [pI n]
def ansL (out : Int) : Int := if out = 0 then 0 else 2
def doL (g : Ledger) (x : Entry) (no : Bool) (out : Int) : Ledger × Int × Int :=
  if g.known.contains x.key = true then (g, if out = 1 then 0 else ansL out, 0)
  else if out = 1 ∨ out = 2 then (g, out, 0)
  else if 200 ≤ g.entries.length ∨ 400 ≤ g.known.length then (zL, 0, 7)
  else (⟨g.service, if no then g.entries else g.entries ++ [x], insL g.known (posL g.known x.key) x.key⟩, ansL out, 0)
theorem posL_le (l : List Int) (k : Int) : posL l k ≤ l.length := by
  unfold posL
  exact (List.takeWhile_sublist _).length_le
/-- A ledger whose rows are the call's own: blocks 0 and 1. -/
abbrev ledO (p : Ledger × Int × Int) : AV := .tup [.agg [.pv (pI p.1.service), .own 0 p.1.entries.length, .own 1 p.1.known.length], .lf (.pv (pI p.2.1)), .lf (.pv (pI p.2.2))]
end Go.Rx
namespace Go.Proofs.Ytooiiihaijpbaaa.Rx
open Go.Rx Go.Proofs Go.Proofs.Ytooiiihaijpbaaa.RxH

abbrev nbO (g : Ledger) : List Blk := [.arr 50 5 (g.entries.map Entry.enc), .arr 3 1 (intRows g.known)]
theorem cloneE_con (l : List Entry) (hl : l.length * 56 ≤ 140737488351232) : Con P 65 [.lf (.pv (encEntries l))] (.lf (.own 0 l.length)) [.arr 50 5 (l.map Entry.enc)] := by
  have hm : (l.map Entry.enc).length = l.length := List.length_map ..
  refine ConG.con (ConG.of T_ok Try.func65 rfl (by kernel_rfl) (by kernel_rfl) (aw_ofC T_ok 2001 (by kernel_rfl) ?_)) rfl
  conv => whnf
  refine AW.seq (AW.nilTest T_ok rfl rfl (by decide) ?_ ?_) fun sl bk h => aw_of T_ok (by kernel_rfl) h
  · intro h0
    conv => whnf
    have hl0 : l = [] := by simpa using h0
    subst hl0
    exact ⟨[.slot 2 50 5], rfl, [0], [.lf (.own 0 0)], [.lf (.own 0 0)], rfl, rfl, rfl, wk_refl _, rfl⟩
  · conv => whnf
    refine ⟨_, .inl rfl, ?_⟩
    conv => whnf
    refine ⟨rfl, by show (0 + (l.map Entry.enc).length) * 56 ≤ _; omega, ?_⟩
    conv => whnf
    refine ⟨[], [0], [.lf (.own 0 l.length)], [.lf (.own 0 l.length)], rfl, rfl, ?_, wk_refl _, rfl⟩
    show some [AV.lf (.own 0 (0 + (l.map Entry.enc).length))] = _
    rw [hm, Nat.zero_add]
theorem cloneI_con (l : List Int) (hl : l.length * 8 ≤ 140737488351232) : Con P 66 [.lf (.pv (encInts l))] (.lf (.own 0 l.length)) [.arr 3 1 (intRows l)] := by
  have hm : (intRows l).length = l.length := List.length_map ..
  refine ConG.con (ConG.of T_ok Try.func66 rfl (by kernel_rfl) (by kernel_rfl) (aw_ofC T_ok 2001 (by kernel_rfl) ?_)) rfl
  conv => whnf
  refine AW.seq (AW.nilTest T_ok rfl rfl (by decide) ?_ ?_) fun sl bk h => aw_of T_ok (by kernel_rfl) h
  · intro h0
    conv => whnf
    have hl0 : l = [] := by simpa using h0
    subst hl0
    exact ⟨[.slot 2 3 1], rfl, [0], [.lf (.own 0 0)], [.lf (.own 0 0)], rfl, rfl, rfl, wk_refl _, rfl⟩
  · conv => whnf
    refine ⟨_, .inl rfl, ?_⟩
    conv => whnf
    refine ⟨rfl, by show (0 + (intRows l).length) * 8 ≤ _; omega, ?_⟩
    conv => whnf
    refine ⟨[], [0], [.lf (.own 0 l.length)], [.lf (.own 0 l.length)], rfl, rfl, ?_, wk_refl _, rfl⟩
    show some [AV.lf (.own 0 (0 + (intRows l).length))] = _
    rw [hm, Nat.zero_add]
theorem own_con (g : Ledger) (h : g.Ok) : Con P 54 [encLedger g] (.agg [.pv (pI g.service), .own 0 g.entries.length, .own 1 g.known.length]) (nbO g) := by
  refine ConG.con (ConG.of T_ok Try.func54 rfl (by kernel_rfl) (by kernel_rfl) (aw_of T_ok (by kernel_rfl) ?_)) rfl
  conv => whnf
  refine AW.draw T_ok rfl (listPl [0, 1, 3, 4, 2, 6, 5, 7, 8, 9]) (by kernel_rfl) (by kernel_rfl) ?_
  conv => whnf
  refine ⟨_, _, _, wk_refl _, cloneE_con g.entries h.el, .inr ?_⟩
  conv => whnf
  refine ⟨_, _, _, wk_refl _, cloneI_con g.known h.kl, .inr ?_⟩
  conv => whnf
  exact ⟨[], [2, 3], [.agg [.pv (pI g.service), .own 0 g.entries.length, .own 1 g.known.length]], [.agg [.pv (pI g.service), .own 0 g.entries.length, .own 1 g.known.length]], rfl, rfl, rfl, wk_refl _, rfl⟩
set_option maxHeartbeats 2000000 in
theorem doT_con (g : Ledger) (h : g.Ok) (hs : g.known.Pairwise (· < ·)) (x : Entry) (out : Int) : Con P 33 [encLedger g, encEntry x, Bl true, I out] (ledO (doL g x true out)) (nbO (doL g x true out).1) := by
  have hel := h.el
  have hkl := h.kl
  obtain ⟨d, hd⟩ : ∃ d, d = doL g x true out := ⟨_, rfl⟩
  rw [← hd]
  refine ConG.con (ConG.of T_ok Try.func33 rfl (by kernel_rfl) (by kernel_rfl) (aw_of T_ok (by kernel_rfl) ?_)) rfl
  conv => whnf
  refine ⟨_, _, _, wk_refl _, own_con g h, .inr ?_⟩
  conv => whnf
  have hle : (g.entries.map Entry.enc).length = g.entries.length := List.length_map ..
  have hlk : (intRows g.known).length = g.known.length := List.length_map ..
  have cb := binarySearch_con g.known x.key h.kl hs
  obtain ⟨ps, hps⟩ : ∃ ps, ps = posL g.known x.key := ⟨_, rfl⟩
  obtain ⟨nk, hnk⟩ : ∃ nk, nk = insL g.known ps x.key := ⟨_, rfl⟩
  have hpl : ps ≤ g.known.length := by rw [hps]; exact posL_le _ _
  have hil : nk.length = g.known.length + 1 := by rw [hnk]; exact ins_len hpl
  have ci : (g.known.length + 1) * 8 ≤ 140737488355328 → ConG P 56 [.arr 3 1 (intRows g.known), .arr 3 1 [[pI x.key]]] [.lf (.own 0 g.known.length), Go.Rx.I ps, .lf (.own 1 1)] (.lf (.own 0 (g.known.length + 1))) [.arr 3 1 (intRows nk), .arr 3 1 [[pI x.key]]] := fun hb => by
    rw [hnk]; exact insert_con g.known ps x.key hpl hb
  rw [← hps] at cb
  refine ⟨hlk, ?_⟩
  conv => whnf
  cases hc : g.known.contains x.key with
  | true =>
    rw [hc] at cb
    refine callS cb rfl ?_
    conv => whnf
    split <;> rename_i h1 <;> conv => whnf
    · have h1' : out = 1 := eq_of_beq h1
      have hd2 : d = (g, 0, 0) := hd.trans (by rw [doL, if_pos hc, if_pos h1'])
      subst hd2
      exact ⟨[], [3, 4], [.agg [.pv (pI g.service), .own 0 g.entries.length, .own 1 g.known.length], Go.Rx.I 0, Go.Rx.I 0], [.agg [.pv (pI g.service), .own 0 g.entries.length, .own 1 g.known.length], Go.Rx.I 0, Go.Rx.I 0], rfl, rfl, rfl, wk_refl _, rfl⟩
    have h1' : ¬ out = 1 := fun e => by rw [show (out == 1) = true from beq_iff_eq.2 e] at h1; cases h1
    split <;> rename_i h2 <;> conv => whnf
    · have h2' : ¬ out = 0 := by have h3 : (out != 0) = true := h2; simpa using h3
      have hd2 : d = (g, 2, 0) := hd.trans (by rw [doL, if_pos hc, if_neg h1', ansL, if_neg h2'])
      subst hd2
      exact ⟨[], [3, 4], [.agg [.pv (pI g.service), .own 0 g.entries.length, .own 1 g.known.length], Go.Rx.I 2, Go.Rx.I 0], [.agg [.pv (pI g.service), .own 0 g.entries.length, .own 1 g.known.length], Go.Rx.I 2, Go.Rx.I 0], rfl, rfl, rfl, wk_refl _, rfl⟩
    · have h2' : out = 0 := by have h3 : (out != 0) = false := h2; simpa using h3
      have hd2 : d = (g, 0, 0) := hd.trans (by rw [doL, if_pos hc, if_neg h1', ansL, if_pos h2'])
      subst hd2
      exact ⟨[], [3, 4], [.agg [.pv (pI g.service), .own 0 g.entries.length, .own 1 g.known.length], Go.Rx.I 0, Go.Rx.I 0], [.agg [.pv (pI g.service), .own 0 g.entries.length, .own 1 g.known.length], Go.Rx.I 0, Go.Rx.I 0], rfl, rfl, rfl, wk_refl _, rfl⟩
  | false =>
    rw [hc] at cb
    have hc' : ¬ g.known.contains x.key = true := by rw [hc]; decide
    have refused : out = 1 ∨ out = 2 → doL g x true out = (g, out, 0) := fun e => by rw [doL, if_neg hc', if_pos e]
    refine callS cb rfl ?_
    conv => whnf
    split <;> rename_i h1 <;> conv => whnf
    · have hd2 := hd.trans (refused (.inl (eq_of_beq h1)))
      subst hd2
      exact ⟨[], [3, 4], [.agg [.pv (pI g.service), .own 0 g.entries.length, .own 1 g.known.length], Go.Rx.I out, Go.Rx.I 0], [.agg [.pv (pI g.service), .own 0 g.entries.length, .own 1 g.known.length], Go.Rx.I out, Go.Rx.I 0], rfl, rfl, rfl, wk_refl _, rfl⟩
    have h1' : ¬ out = 1 := fun e => by rw [show (out == 1) = true from beq_iff_eq.2 e] at h1; cases h1
    split <;> rename_i h2 <;> conv => whnf
    · have hd2 := hd.trans (refused (.inr (eq_of_beq h2)))
      subst hd2
      exact ⟨[], [3, 4], [.agg [.pv (pI g.service), .own 0 g.entries.length, .own 1 g.known.length], Go.Rx.I out, Go.Rx.I 0], [.agg [.pv (pI g.service), .own 0 g.entries.length, .own 1 g.known.length], Go.Rx.I out, Go.Rx.I 0], rfl, rfl, rfl, wk_refl _, rfl⟩
    have h2' : ¬ out = 2 := fun e => by rw [show (out == 2) = true from beq_iff_eq.2 e] at h2; cases h2
    have full : 200 ≤ g.entries.length ∨ 400 ≤ g.known.length → doL g x true out = (zL, 0, 7) := fun e => by rw [doL, if_neg hc', if_neg (by omega), if_pos e]
    refine ⟨hle, ?_⟩
    conv => whnf
    split <;> rename_i h3 <;> conv => whnf
    · have hd2 := hd.trans (full (.inl (by have := of_decide_eq_true h3; omega)))
      subst hd2
      exact ⟨[.cell 2 1 50 5, .cell 2 2 3 1], ⟨rfl, rfl, [5, 6], [.agg [.pv (pI 0), .own 0 0, .own 1 0], Go.Rx.I 0, Go.Rx.I 7], [.agg [.pv (pI 0), .own 0 0, .own 1 0], Go.Rx.I 0, Go.Rx.I 7], rfl, rfl, rfl, wk_refl _, rfl⟩⟩
    have h3' : g.entries.length < 200 := by have := of_decide_eq_false h3; omega
    refine ⟨hlk, ?_⟩
    conv => whnf
    split <;> rename_i h4 <;> conv => whnf
    · have hd2 := hd.trans (full (.inr (by have := of_decide_eq_true h4; omega)))
      subst hd2
      exact ⟨[.cell 2 1 50 5, .cell 2 2 3 1], ⟨rfl, rfl, [5, 6], [.agg [.pv (pI 0), .own 0 0, .own 1 0], Go.Rx.I 0, Go.Rx.I 7], [.agg [.pv (pI 0), .own 0 0, .own 1 0], Go.Rx.I 0, Go.Rx.I 7], rfl, rfl, rfl, wk_refl _, rfl⟩⟩
    have h4' : g.known.length < 400 := by have := of_decide_eq_false h4; omega
    refine ⟨[4, 5], _, _, _, _, _, nodupB_ok rfl, rfl, rfl, wk_refl _, ci (by omega), ?_⟩
    conv => whnf
    have hel2 : (g.entries ++ [x]).length = g.entries.length + 1 := by simp
    have goes : doL g x true out = (⟨g.service, if true then g.entries else g.entries ++ [x], nk⟩, ansL out, 0) := by rw [hnk, hps, doL, if_neg hc', if_neg (by omega), if_neg (by omega)]
    split <;> rename_i h5 <;> conv => whnf
    · have h5' : ¬ out = 0 := by have h6 : (out != 0) = true := h5; simpa using h6
      have hd2 : d = (⟨g.service, g.entries, nk⟩, 2, 0) := hd.trans (by rw [goes, ansL, if_neg h5']; rfl)
      subst hd2
      refine ⟨[], [3, 4], [.agg [.pv (pI g.service), .own 0 g.entries.length, .own 1 nk.length], Go.Rx.I 2, Go.Rx.I 0], [.agg [.pv (pI g.service), .own 0 g.entries.length, .own 1 nk.length], Go.Rx.I 2, Go.Rx.I 0], rfl, rfl, ?_, wk_refl _, rfl⟩
      show some [AV.agg [.pv (pI g.service), .own 0 g.entries.length, .own 1 (g.known.length + 1)], Go.Rx.I 2, Go.Rx.I 0] = _
      rw [hil]
    · have h5' : out = 0 := by have h6 : (out != 0) = false := h5; simpa using h6
      have hd2 : d = (⟨g.service, g.entries, nk⟩, 0, 0) := hd.trans (by rw [goes, ansL, if_pos h5']; rfl)
      subst hd2
      refine ⟨[], [3, 4], [.agg [.pv (pI g.service), .own 0 g.entries.length, .own 1 nk.length], Go.Rx.I 0, Go.Rx.I 0], [.agg [.pv (pI g.service), .own 0 g.entries.length, .own 1 nk.length], Go.Rx.I 0, Go.Rx.I 0], rfl, rfl, ?_, wk_refl _, rfl⟩
      show some [AV.agg [.pv (pI g.service), .own 0 g.entries.length, .own 1 (g.known.length + 1)], Go.Rx.I 0, Go.Rx.I 0] = _
      rw [hil]
set_option maxHeartbeats 2000000 in
theorem doF_con (g : Ledger) (h : g.Ok) (hs : g.known.Pairwise (· < ·)) (x : Entry) (out : Int) : Con P 33 [encLedger g, encEntry x, Bl false, I out] (ledO (doL g x false out)) (nbO (doL g x false out).1) := by
  have hel := h.el
  have hkl := h.kl
  obtain ⟨d, hd⟩ : ∃ d, d = doL g x false out := ⟨_, rfl⟩
  rw [← hd]
  refine ConG.con (ConG.of T_ok Try.func33 rfl (by kernel_rfl) (by kernel_rfl) (aw_of T_ok (by kernel_rfl) ?_)) rfl
  conv => whnf
  refine ⟨_, _, _, wk_refl _, own_con g h, .inr ?_⟩
  conv => whnf
  have hle : (g.entries.map Entry.enc).length = g.entries.length := List.length_map ..
  have hlk : (intRows g.known).length = g.known.length := List.length_map ..
  have cb := binarySearch_con g.known x.key h.kl hs
  obtain ⟨ps, hps⟩ : ∃ ps, ps = posL g.known x.key := ⟨_, rfl⟩
  obtain ⟨nk, hnk⟩ : ∃ nk, nk = insL g.known ps x.key := ⟨_, rfl⟩
  have hpl : ps ≤ g.known.length := by rw [hps]; exact posL_le _ _
  have hil : nk.length = g.known.length + 1 := by rw [hnk]; exact ins_len hpl
  have ci : (g.known.length + 1) * 8 ≤ 140737488355328 → ConG P 56 [.arr 3 1 (intRows g.known), .arr 3 1 [[pI x.key]]] [.lf (.own 0 g.known.length), Go.Rx.I ps, .lf (.own 1 1)] (.lf (.own 0 (g.known.length + 1))) [.arr 3 1 (intRows nk), .arr 3 1 [[pI x.key]]] := fun hb => by
    rw [hnk]; exact insert_con g.known ps x.key hpl hb
  rw [← hps] at cb
  refine ⟨hlk, ?_⟩
  conv => whnf
  cases hc : g.known.contains x.key with
  | true =>
    rw [hc] at cb
    refine callS cb rfl ?_
    conv => whnf
    split <;> rename_i h1 <;> conv => whnf
    · have h1' : out = 1 := eq_of_beq h1
      have hd2 : d = (g, 0, 0) := hd.trans (by rw [doL, if_pos hc, if_pos h1'])
      subst hd2
      exact ⟨[], [3, 4], [.agg [.pv (pI g.service), .own 0 g.entries.length, .own 1 g.known.length], Go.Rx.I 0, Go.Rx.I 0], [.agg [.pv (pI g.service), .own 0 g.entries.length, .own 1 g.known.length], Go.Rx.I 0, Go.Rx.I 0], rfl, rfl, rfl, wk_refl _, rfl⟩
    have h1' : ¬ out = 1 := fun e => by rw [show (out == 1) = true from beq_iff_eq.2 e] at h1; cases h1
    split <;> rename_i h2 <;> conv => whnf
    · have h2' : ¬ out = 0 := by have h3 : (out != 0) = true := h2; simpa using h3
      have hd2 : d = (g, 2, 0) := hd.trans (by rw [doL, if_pos hc, if_neg h1', ansL, if_neg h2'])
      subst hd2
      exact ⟨[], [3, 4], [.agg [.pv (pI g.service), .own 0 g.entries.length, .own 1 g.known.length], Go.Rx.I 2, Go.Rx.I 0], [.agg [.pv (pI g.service), .own 0 g.entries.length, .own 1 g.known.length], Go.Rx.I 2, Go.Rx.I 0], rfl, rfl, rfl, wk_refl _, rfl⟩
    · have h2' : out = 0 := by have h3 : (out != 0) = false := h2; simpa using h3
      have hd2 : d = (g, 0, 0) := hd.trans (by rw [doL, if_pos hc, if_neg h1', ansL, if_pos h2'])
      subst hd2
      exact ⟨[], [3, 4], [.agg [.pv (pI g.service), .own 0 g.entries.length, .own 1 g.known.length], Go.Rx.I 0, Go.Rx.I 0], [.agg [.pv (pI g.service), .own 0 g.entries.length, .own 1 g.known.length], Go.Rx.I 0, Go.Rx.I 0], rfl, rfl, rfl, wk_refl _, rfl⟩
  | false =>
    rw [hc] at cb
    have hc' : ¬ g.known.contains x.key = true := by rw [hc]; decide
    have refused : out = 1 ∨ out = 2 → doL g x false out = (g, out, 0) := fun e => by rw [doL, if_neg hc', if_pos e]
    refine callS cb rfl ?_
    conv => whnf
    split <;> rename_i h1 <;> conv => whnf
    · have hd2 := hd.trans (refused (.inl (eq_of_beq h1)))
      subst hd2
      exact ⟨[], [3, 4], [.agg [.pv (pI g.service), .own 0 g.entries.length, .own 1 g.known.length], Go.Rx.I out, Go.Rx.I 0], [.agg [.pv (pI g.service), .own 0 g.entries.length, .own 1 g.known.length], Go.Rx.I out, Go.Rx.I 0], rfl, rfl, rfl, wk_refl _, rfl⟩
    have h1' : ¬ out = 1 := fun e => by rw [show (out == 1) = true from beq_iff_eq.2 e] at h1; cases h1
    split <;> rename_i h2 <;> conv => whnf
    · have hd2 := hd.trans (refused (.inr (eq_of_beq h2)))
      subst hd2
      exact ⟨[], [3, 4], [.agg [.pv (pI g.service), .own 0 g.entries.length, .own 1 g.known.length], Go.Rx.I out, Go.Rx.I 0], [.agg [.pv (pI g.service), .own 0 g.entries.length, .own 1 g.known.length], Go.Rx.I out, Go.Rx.I 0], rfl, rfl, rfl, wk_refl _, rfl⟩
    have h2' : ¬ out = 2 := fun e => by rw [show (out == 2) = true from beq_iff_eq.2 e] at h2; cases h2
    have full : 200 ≤ g.entries.length ∨ 400 ≤ g.known.length → doL g x false out = (zL, 0, 7) := fun e => by rw [doL, if_neg hc', if_neg (by omega), if_pos e]
    refine ⟨hle, ?_⟩
    conv => whnf
    split <;> rename_i h3 <;> conv => whnf
    · have hd2 := hd.trans (full (.inl (by have := of_decide_eq_true h3; omega)))
      subst hd2
      exact ⟨[.cell 2 1 50 5, .cell 2 2 3 1], ⟨rfl, rfl, [5, 6], [.agg [.pv (pI 0), .own 0 0, .own 1 0], Go.Rx.I 0, Go.Rx.I 7], [.agg [.pv (pI 0), .own 0 0, .own 1 0], Go.Rx.I 0, Go.Rx.I 7], rfl, rfl, rfl, wk_refl _, rfl⟩⟩
    have h3' : g.entries.length < 200 := by have := of_decide_eq_false h3; omega
    refine ⟨hlk, ?_⟩
    conv => whnf
    split <;> rename_i h4 <;> conv => whnf
    · have hd2 := hd.trans (full (.inr (by have := of_decide_eq_true h4; omega)))
      subst hd2
      exact ⟨[.cell 2 1 50 5, .cell 2 2 3 1], ⟨rfl, rfl, [5, 6], [.agg [.pv (pI 0), .own 0 0, .own 1 0], Go.Rx.I 0, Go.Rx.I 7], [.agg [.pv (pI 0), .own 0 0, .own 1 0], Go.Rx.I 0, Go.Rx.I 7], rfl, rfl, rfl, wk_refl _, rfl⟩⟩
    have h4' : g.known.length < 400 := by have := of_decide_eq_false h4; omega
    refine ⟨[4, 5], _, _, _, _, _, nodupB_ok rfl, rfl, rfl, wk_refl _, ci (by omega), ?_⟩
    conv => whnf
    have hel2 : (g.entries ++ [x]).length = g.entries.length + 1 := by simp
    have goes : doL g x false out = (⟨g.service, if false then g.entries else g.entries ++ [x], nk⟩, ansL out, 0) := by rw [hnk, hps, doL, if_neg hc', if_neg (by omega), if_neg (by omega)]
    refine ⟨rfl, _, .inl rfl, ?_⟩
    conv => whnf
    refine ⟨hle, by show (g.entries.length + 1) * 56 ≤ _; omega, ?_⟩
    conv => whnf
    split <;> rename_i h5 <;> conv => whnf
    · have h5' : ¬ out = 0 := by have h6 : (out != 0) = true := h5; simpa using h6
      have hd2 : d = (⟨g.service, g.entries ++ [x], nk⟩, 2, 0) := hd.trans (by rw [goes, ansL, if_neg h5']; rfl)
      subst hd2
      refine ⟨[], [3, 4], [.agg [.pv (pI g.service), .own 0 (g.entries ++ [x]).length, .own 1 nk.length], Go.Rx.I 2, Go.Rx.I 0], [.agg [.pv (pI g.service), .own 0 (g.entries ++ [x]).length, .own 1 nk.length], Go.Rx.I 2, Go.Rx.I 0], rfl, ?p1, ?p2, wk_refl _, rfl⟩
      case p1 => show some [Blk.arr _ 5 (g.entries.map Entry.enc ++ [x.enc]), Blk.arr _ 1 (intRows nk)] = some (nbO ⟨g.service, g.entries ++ [x], _⟩); rw [nbO, List.map_append]; rfl
      case p2 => show some [AV.agg [.pv (pI g.service), .own 0 (g.entries.length + 1), .own 1 (g.known.length + 1)], Go.Rx.I 2, Go.Rx.I 0] = _; rw [hil, hel2]
    · have h5' : out = 0 := by have h6 : (out != 0) = false := h5; simpa using h6
      have hd2 : d = (⟨g.service, g.entries ++ [x], nk⟩, 0, 0) := hd.trans (by rw [goes, ansL, if_pos h5']; rfl)
      subst hd2
      refine ⟨[], [3, 4], [.agg [.pv (pI g.service), .own 0 (g.entries ++ [x]).length, .own 1 nk.length], Go.Rx.I 0, Go.Rx.I 0], [.agg [.pv (pI g.service), .own 0 (g.entries ++ [x]).length, .own 1 nk.length], Go.Rx.I 0, Go.Rx.I 0], rfl, ?q1, ?q2, wk_refl _, rfl⟩
      case q1 => show some [Blk.arr _ 5 (g.entries.map Entry.enc ++ [x.enc]), Blk.arr _ 1 (intRows nk)] = some (nbO ⟨g.service, g.entries ++ [x], _⟩); rw [nbO, List.map_append]; rfl
      case q2 => show some [AV.agg [.pv (pI g.service), .own 0 (g.entries.length + 1), .own 1 (g.known.length + 1)], Go.Rx.I 0, Go.Rx.I 0] = _; rw [hil, hel2]
theorem do_con (g : Ledger) (h : g.Ok) (hs : g.known.Pairwise (· < ·)) (x : Entry) (no : Bool) (out : Int) : Con P 33 [encLedger g, encEntry x, Bl no, I out] (ledO (doL g x no out)) (nbO (doL g x no out).1) := by
  cases no
  · exact doF_con g h hs x out
  · exact doT_con g h hs x out
end Go.Proofs.Ytooiiihaijpbaaa.Rx
