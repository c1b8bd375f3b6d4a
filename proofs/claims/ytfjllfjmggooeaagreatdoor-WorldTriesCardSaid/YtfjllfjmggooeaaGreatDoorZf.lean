/- The texts of the proof, part 6, in order. -/
import Derived.Test.YtfjllfjmggooeaaGreatDoorZe
import Derived.Test.YtfjllfjmggooeaaGreatDoorZd
import Derived.LaidEql
import Derived.Stop.Asserts
import Derived.RowKitTokens
/- Copies of the call's own; what a call does to a ledger. -/
set_option linter.unusedVariables false
set_option linter.unusedSimpArgs false
namespace Go.Rx
abbrev intRows (l : List Int) : List (List PV) := l.map fun n => [pI n]
def ansL (out : Int) : Int := if out = 0 then 0 else 2
def doL (g : Ledger) (x : Entry) (no : Bool) (out : Int) : Ledger × Int × Int :=
  if g.known.contains x.key = true then (g, if out = 1 then 0 else ansL out, 0)
  else if out = 1 ∨ out = 2 then (g, out, 0)
  else if 200 ≤ g.entries.length ∨ 400 ≤ g.known.length then (zL, 0, 7)
  else (⟨g.service, if no then g.entries else g.entries ++ [x], insL g.known (posL g.known x.key) x.key⟩, ansL out, 0)
theorem posL_le (l : List Int) (k : Int) : posL l k ≤ l.length := by
  unfold posL
  exact (List.takeWhile_sublist _).length_le
/-- A ledger whose rows are the call's own: blocks 0 and 1. -/
abbrev ledO (p : Ledger × Int × Int) : AV := .tup [.agg [.pv (pI p.1.service), .own 0 p.1.entries.length, .own 1 p.1.known.length], .lf (.pv (pI p.2.1)), .lf (.pv (pI p.2.2))]
end Go.Rx
namespace Go.Proofs.YtfjllfjmggooeaaGreatDoor.Rx
open Go.Rx Go.Proofs Go.Proofs.YtfjllfjmggooeaaGreatDoor.RxH

abbrev nbO (g : Ledger) : List Blk := [.arr 102 5 (g.entries.map Entry.enc), .arr 3 1 (intRows g.known)]
theorem cloneE_con (l : List Entry) (hl : l.length * 56 ≤ 140737488351232) : Con P 126 [.lf (.pv (encEntries l))] (.lf (.own 0 l.length)) [.arr 102 5 (l.map Entry.enc)] := by
  have hm : (l.map Entry.enc).length = l.length := List.length_map ..
  refine ConG.con (ConG.of T_ok Tryz.func126 rfl (by kernel_rfl) (by kernel_rfl) (aw_ofC T_ok 2001 (by kernel_rfl) ?_)) rfl
  conv => whnf
  refine AW.seq (AW.nilTest T_ok rfl rfl (by decide) ?_ ?_) fun sl bk h => aw_of T_ok (by kernel_rfl) h
  · intro h0
    conv => whnf
    have hl0 : l = [] := by simpa using h0
    subst hl0
    exact ⟨[.slot 2 102 5], rfl, [0], [.lf (.own 0 0)], [.lf (.own 0 0)], rfl, rfl, rfl, wk_refl _, rfl⟩
  · conv => whnf
    refine ⟨_, .inl rfl, ?_⟩
    conv => whnf
    refine ⟨rfl, by show (0 + (l.map Entry.enc).length) * 56 ≤ _; omega, ?_⟩
    conv => whnf
    refine ⟨[], [0], [.lf (.own 0 l.length)], [.lf (.own 0 l.length)], rfl, rfl, ?_, wk_refl _, rfl⟩
    show some [AV.lf (.own 0 (0 + (l.map Entry.enc).length))] = _
    rw [hm, Nat.zero_add]
theorem cloneI_con (l : List Int) (hl : l.length * 8 ≤ 140737488351232) : Con P 66 [.lf (.pv (encInts l))] (.lf (.own 0 l.length)) [.arr 3 1 (intRows l)] := by
  have hm : (intRows l).length = l.length := List.length_map ..
  refine ConG.con (ConG.of T_ok Tryz.func66 rfl (by kernel_rfl) (by kernel_rfl) (aw_ofC T_ok 2001 (by kernel_rfl) ?_)) rfl
  conv => whnf
  refine AW.seq (AW.nilTest T_ok rfl rfl (by decide) ?_ ?_) fun sl bk h => aw_of T_ok (by kernel_rfl) h
  · intro h0
    conv => whnf
    have hl0 : l = [] := by simpa using h0
    subst hl0
    exact ⟨[.slot 2 3 1], rfl, [0], [.lf (.own 0 0)], [.lf (.own 0 0)], rfl, rfl, rfl, wk_refl _, rfl⟩
  · conv => whnf
    refine ⟨_, .inl rfl, ?_⟩
    conv => whnf
    refine ⟨rfl, by show (0 + (intRows l).length) * 8 ≤ _; omega, ?_⟩
    conv => whnf
    refine ⟨[], [0], [.lf (.own 0 l.length)], [.lf (.own 0 l.length)], rfl, rfl, ?_, wk_refl _, rfl⟩
    show some [AV.lf (.own 0 (0 + (intRows l).length))] = _
    rw [hm, Nat.zero_add]
theorem ownL_con (g : Ledger) (h : g.Ok) : Con P 95 [encLedger g] (.agg [.pv (pI g.service), .own 0 g.entries.length, .own 1 g.known.length]) (nbO g) := by
  refine ConG.con (ConG.of T_ok Tryz.func95 rfl (by kernel_rfl) (by kernel_rfl) (aw_of T_ok (by kernel_rfl) ?_)) rfl
  conv => whnf
  refine AW.draw T_ok rfl (listPl [0, 1, 3, 4, 2, 6, 5, 7, 8, 9]) (by kernel_rfl) (by kernel_rfl) ?_
  conv => whnf
  refine ⟨_, _, _, wk_refl _, cloneE_con g.entries h.el, .inr ?_⟩
  conv => whnf
  refine ⟨_, _, _, wk_refl _, cloneI_con g.known h.kl, .inr ?_⟩
  conv => whnf
  exact ⟨[], [2, 3], [.agg [.pv (pI g.service), .own 0 g.entries.length, .own 1 g.known.length]], [.agg [.pv (pI g.service), .own 0 g.entries.length, .own 1 g.known.length]], rfl, rfl, rfl, wk_refl _, rfl⟩
set_option maxHeartbeats 2000000 in
theorem doT_con (g : Ledger) (h : g.Ok) (hs : g.known.Pairwise (· < ·)) (x : Entry) (out : Int) : Con P 173 [encLedger g, encEntry x, Bl true, I out] (ledO (doL g x true out)) (nbO (doL g x true out).1) := by
  have hel := h.el
  have hkl := h.kl
  obtain ⟨d, hd⟩ : ∃ d, d = doL g x true out := ⟨_, rfl⟩
  rw [← hd]
  refine ConG.con (ConG.of T_ok Tryz.func173 rfl (by kernel_rfl) (by kernel_rfl) (aw_of T_ok (by kernel_rfl) ?_)) rfl
  conv => whnf
  refine ⟨_, _, _, wk_refl _, ownL_con g h, .inr ?_⟩
  conv => whnf
  have hle : (g.entries.map Entry.enc).length = g.entries.length := List.length_map ..
  have hlk : (intRows g.known).length = g.known.length := List.length_map ..
  have cb := binarySearch_con g.known x.key h.kl hs
  obtain ⟨ps, hps⟩ : ∃ ps, ps = posL g.known x.key := ⟨_, rfl⟩
  obtain ⟨nk, hnk⟩ : ∃ nk, nk = insL g.known ps x.key := ⟨_, rfl⟩
  have hpl : ps ≤ g.known.length := by rw [hps]; exact posL_le _ _
  have hil : nk.length = g.known.length + 1 := by rw [hnk]; exact ins_len hpl
  have ci : (g.known.length + 1) * 8 ≤ 140737488355328 → ConG P 197 [.arr 3 1 (intRows g.known), .arr 3 1 [[pI x.key]]] [.lf (.own 0 g.known.length), Go.Rx.I ps, .lf (.own 1 1)] (.lf (.own 0 (g.known.length + 1))) [.arr 3 1 (intRows nk), .arr 3 1 [[pI x.key]]] := fun hb => by
    rw [hnk]; exact insert_con g.known ps x.key hpl hb
  rw [← hps] at cb
  refine ⟨hlk, ?_⟩
  conv => whnf
  cases hc : g.known.contains x.key with
  | true =>
    rw [hc] at cb
    refine callS cb rfl ?_
    conv => whnf
    split <;> rename_i h1 <;> conv => whnf
    · have h1' : out = 1 := eq_of_beq h1
      have hd2 : d = (g, 0, 0) := hd.trans (by rw [doL, if_pos hc, if_pos h1'])
      subst hd2
      exact ⟨[], [3, 4], [.agg [.pv (pI g.service), .own 0 g.entries.length, .own 1 g.known.length], Go.Rx.I 0, Go.Rx.I 0], [.agg [.pv (pI g.service), .own 0 g.entries.length, .own 1 g.known.length], Go.Rx.I 0, Go.Rx.I 0], rfl, rfl, rfl, wk_refl _, rfl⟩
    have h1' : ¬ out = 1 := fun e => by rw [show (out == 1) = true from beq_iff_eq.2 e] at h1; cases h1
    split <;> rename_i h2 <;> conv => whnf
    · have h2' : ¬ out = 0 := by have h3 : (out != 0) = true := h2; simpa using h3
      have hd2 : d = (g, 2, 0) := hd.trans (by rw [doL, if_pos hc, if_neg h1', ansL, if_neg h2'])
      subst hd2
      exact ⟨[], [3, 4], [.agg [.pv (pI g.service), .own 0 g.entries.length, .own 1 g.known.length], Go.Rx.I 2, Go.Rx.I 0], [.agg [.pv (pI g.service), .own 0 g.entries.length, .own 1 g.known.length], Go.Rx.I 2, Go.Rx.I 0], rfl, rfl, rfl, wk_refl _, rfl⟩
    · have h2' : out = 0 := by have h3 : (out != 0) = false := h2; simpa using h3
      have hd2 : d = (g, 0, 0) := hd.trans (by rw [doL, if_pos hc, if_neg h1', ansL, if_pos h2'])
      subst hd2
      exact ⟨[], [3, 4], [.agg [.pv (pI g.service), .own 0 g.entries.length, .own 1 g.known.length], Go.Rx.I 0, Go.Rx.I 0], [.agg [.pv (pI g.service), .own 0 g.entries.length, .own 1 g.known.length], Go.Rx.I 0, Go.Rx.I 0], rfl, rfl, rfl, wk_refl _, rfl⟩
  | false =>
    rw [hc] at cb
    have hc' : ¬ g.known.contains x.key = true := by rw [hc]; decide
    have refused : out = 1 ∨ out = 2 → doL g x true out = (g, out, 0) := fun e => by rw [doL, if_neg hc', if_pos e]
    refine callS cb rfl ?_
    conv => whnf
    split <;> rename_i h1 <;> conv => whnf
    · have hd2 := hd.trans (refused (.inl (eq_of_beq h1)))
      subst hd2
      exact ⟨[], [3, 4], [.agg [.pv (pI g.service), .own 0 g.entries.length, .own 1 g.known.length], Go.Rx.I out, Go.Rx.I 0], [.agg [.pv (pI g.service), .own 0 g.entries.length, .own 1 g.known.length], Go.Rx.I out, Go.Rx.I 0], rfl, rfl, rfl, wk_refl _, rfl⟩
    have h1' : ¬ out = 1 := fun e => by rw [show (out == 1) = true from beq_iff_eq.2 e] at h1; cases h1
    split <;> rename_i h2 <;> conv => whnf
    · have hd2 := hd.trans (refused (.inr (eq_of_beq h2)))
      subst hd2
      exact ⟨[], [3, 4], [.agg [.pv (pI g.service), .own 0 g.entries.length, .own 1 g.known.length], Go.Rx.I out, Go.Rx.I 0], [.agg [.pv (pI g.service), .own 0 g.entries.length, .own 1 g.known.length], Go.Rx.I out, Go.Rx.I 0], rfl, rfl, rfl, wk_refl _, rfl⟩
    have h2' : ¬ out = 2 := fun e => by rw [show (out == 2) = true from beq_iff_eq.2 e] at h2; cases h2
    have full : 200 ≤ g.entries.length ∨ 400 ≤ g.known.length → doL g x true out = (zL, 0, 7) := fun e => by rw [doL, if_neg hc', if_neg (by omega), if_pos e]
    refine ⟨hle, ?_⟩
    conv => whnf
    split <;> rename_i h3 <;> conv => whnf
    · have hd2 := hd.trans (full (.inl (by have := of_decide_eq_true h3; omega)))
      subst hd2
      exact ⟨[.cell 2 1 102 5, .cell 2 2 3 1], ⟨rfl, rfl, [5, 6], [.agg [.pv (pI 0), .own 0 0, .own 1 0], Go.Rx.I 0, Go.Rx.I 7], [.agg [.pv (pI 0), .own 0 0, .own 1 0], Go.Rx.I 0, Go.Rx.I 7], rfl, rfl, rfl, wk_refl _, rfl⟩⟩
    have h3' : g.entries.length < 200 := by have := of_decide_eq_false h3; omega
    refine ⟨hlk, ?_⟩
    conv => whnf
    split <;> rename_i h4 <;> conv => whnf
    · have hd2 := hd.trans (full (.inr (by have := of_decide_eq_true h4; omega)))
      subst hd2
      exact ⟨[.cell 2 1 102 5, .cell 2 2 3 1], ⟨rfl, rfl, [5, 6], [.agg [.pv (pI 0), .own 0 0, .own 1 0], Go.Rx.I 0, Go.Rx.I 7], [.agg [.pv (pI 0), .own 0 0, .own 1 0], Go.Rx.I 0, Go.Rx.I 7], rfl, rfl, rfl, wk_refl _, rfl⟩⟩
    have h4' : g.known.length < 400 := by have := of_decide_eq_false h4; omega
    refine ⟨[4, 5], _, _, _, _, _, nodupB_ok rfl, rfl, rfl, wk_refl _, ci (by omega), ?_⟩
    conv => whnf
    have hel2 : (g.entries ++ [x]).length = g.entries.length + 1 := by simp
    have goes : doL g x true out = (⟨g.service, if true then g.entries else g.entries ++ [x], nk⟩, ansL out, 0) := by rw [hnk, hps, doL, if_neg hc', if_neg (by omega), if_neg (by omega)]
    split <;> rename_i h5 <;> conv => whnf
    · have h5' : ¬ out = 0 := by have h6 : (out != 0) = true := h5; simpa using h6
      have hd2 : d = (⟨g.service, g.entries, nk⟩, 2, 0) := hd.trans (by rw [goes, ansL, if_neg h5']; rfl)
      subst hd2
      refine ⟨[], [3, 4], [.agg [.pv (pI g.service), .own 0 g.entries.length, .own 1 nk.length], Go.Rx.I 2, Go.Rx.I 0], [.agg [.pv (pI g.service), .own 0 g.entries.length, .own 1 nk.length], Go.Rx.I 2, Go.Rx.I 0], rfl, rfl, ?_, wk_refl _, rfl⟩
      show some [AV.agg [.pv (pI g.service), .own 0 g.entries.length, .own 1 (g.known.length + 1)], Go.Rx.I 2, Go.Rx.I 0] = _
      rw [hil]
    · have h5' : out = 0 := by have h6 : (out != 0) = false := h5; simpa using h6
      have hd2 : d = (⟨g.service, g.entries, nk⟩, 0, 0) := hd.trans (by rw [goes, ansL, if_pos h5']; rfl)
      subst hd2
      refine ⟨[], [3, 4], [.agg [.pv (pI g.service), .own 0 g.entries.length, .own 1 nk.length], Go.Rx.I 0, Go.Rx.I 0], [.agg [.pv (pI g.service), .own 0 g.entries.length, .own 1 nk.length], Go.Rx.I 0, Go.Rx.I 0], rfl, rfl, ?_, wk_refl _, rfl⟩
      show some [AV.agg [.pv (pI g.service), .own 0 g.entries.length, .own 1 (g.known.length + 1)], Go.Rx.I 0, Go.Rx.I 0] = _
      rw [hil]
set_option maxHeartbeats 2000000 in
theorem doF_con (g : Ledger) (h : g.Ok) (hs : g.known.Pairwise (· < ·)) (x : Entry) (out : Int) : Con P 173 [encLedger g, encEntry x, Bl false, I out] (ledO (doL g x false out)) (nbO (doL g x false out).1) := by
  have hel := h.el
  have hkl := h.kl
  obtain ⟨d, hd⟩ : ∃ d, d = doL g x false out := ⟨_, rfl⟩
  rw [← hd]
  refine ConG.con (ConG.of T_ok Tryz.func173 rfl (by kernel_rfl) (by kernel_rfl) (aw_of T_ok (by kernel_rfl) ?_)) rfl
  conv => whnf
  refine ⟨_, _, _, wk_refl _, ownL_con g h, .inr ?_⟩
  conv => whnf
  have hle : (g.entries.map Entry.enc).length = g.entries.length := List.length_map ..
  have hlk : (intRows g.known).length = g.known.length := List.length_map ..
  have cb := binarySearch_con g.known x.key h.kl hs
  obtain ⟨ps, hps⟩ : ∃ ps, ps = posL g.known x.key := ⟨_, rfl⟩
  obtain ⟨nk, hnk⟩ : ∃ nk, nk = insL g.known ps x.key := ⟨_, rfl⟩
  have hpl : ps ≤ g.known.length := by rw [hps]; exact posL_le _ _
  have hil : nk.length = g.known.length + 1 := by rw [hnk]; exact ins_len hpl
  have ci : (g.known.length + 1) * 8 ≤ 140737488355328 → ConG P 197 [.arr 3 1 (intRows g.known), .arr 3 1 [[pI x.key]]] [.lf (.own 0 g.known.length), Go.Rx.I ps, .lf (.own 1 1)] (.lf (.own 0 (g.known.length + 1))) [.arr 3 1 (intRows nk), .arr 3 1 [[pI x.key]]] := fun hb => by
    rw [hnk]; exact insert_con g.known ps x.key hpl hb
  rw [← hps] at cb
  refine ⟨hlk, ?_⟩
  conv => whnf
  cases hc : g.known.contains x.key with
  | true =>
    rw [hc] at cb
    refine callS cb rfl ?_
    conv => whnf
    split <;> rename_i h1 <;> conv => whnf
    · have h1' : out = 1 := eq_of_beq h1
      have hd2 : d = (g, 0, 0) := hd.trans (by rw [doL, if_pos hc, if_pos h1'])
      subst hd2
      exact ⟨[], [3, 4], [.agg [.pv (pI g.service), .own 0 g.entries.length, .own 1 g.known.length], Go.Rx.I 0, Go.Rx.I 0], [.agg [.pv (pI g.service), .own 0 g.entries.length, .own 1 g.known.length], Go.Rx.I 0, Go.Rx.I 0], rfl, rfl, rfl, wk_refl _, rfl⟩
    have h1' : ¬ out = 1 := fun e => by rw [show (out == 1) = true from beq_iff_eq.2 e] at h1; cases h1
    split <;> rename_i h2 <;> conv => whnf
    · have h2' : ¬ out = 0 := by have h3 : (out != 0) = true := h2; simpa using h3
      have hd2 : d = (g, 2, 0) := hd.trans (by rw [doL, if_pos hc, if_neg h1', ansL, if_neg h2'])
      subst hd2
      exact ⟨[], [3, 4], [.agg [.pv (pI g.service), .own 0 g.entries.length, .own 1 g.known.length], Go.Rx.I 2, Go.Rx.I 0], [.agg [.pv (pI g.service), .own 0 g.entries.length, .own 1 g.known.length], Go.Rx.I 2, Go.Rx.I 0], rfl, rfl, rfl, wk_refl _, rfl⟩
    · have h2' : out = 0 := by have h3 : (out != 0) = false := h2; simpa using h3
      have hd2 : d = (g, 0, 0) := hd.trans (by rw [doL, if_pos hc, if_neg h1', ansL, if_pos h2'])
      subst hd2
      exact ⟨[], [3, 4], [.agg [.pv (pI g.service), .own 0 g.entries.length, .own 1 g.known.length], Go.Rx.I 0, Go.Rx.I 0], [.agg [.pv (pI g.service), .own 0 g.entries.length, .own 1 g.known.length], Go.Rx.I 0, Go.Rx.I 0], rfl, rfl, rfl, wk_refl _, rfl⟩
  | false =>
    rw [hc] at cb
    have hc' : ¬ g.known.contains x.key = true := by rw [hc]; decide
    have refused : out = 1 ∨ out = 2 → doL g x false out = (g, out, 0) := fun e => by rw [doL, if_neg hc', if_pos e]
    refine callS cb rfl ?_
    conv => whnf
    split <;> rename_i h1 <;> conv => whnf
    · have hd2 := hd.trans (refused (.inl (eq_of_beq h1)))
      subst hd2
      exact ⟨[], [3, 4], [.agg [.pv (pI g.service), .own 0 g.entries.length, .own 1 g.known.length], Go.Rx.I out, Go.Rx.I 0], [.agg [.pv (pI g.service), .own 0 g.entries.length, .own 1 g.known.length], Go.Rx.I out, Go.Rx.I 0], rfl, rfl, rfl, wk_refl _, rfl⟩
    have h1' : ¬ out = 1 := fun e => by rw [show (out == 1) = true from beq_iff_eq.2 e] at h1; cases h1
    split <;> rename_i h2 <;> conv => whnf
    · have hd2 := hd.trans (refused (.inr (eq_of_beq h2)))
      subst hd2
      exact ⟨[], [3, 4], [.agg [.pv (pI g.service), .own 0 g.entries.length, .own 1 g.known.length], Go.Rx.I out, Go.Rx.I 0], [.agg [.pv (pI g.service), .own 0 g.entries.length, .own 1 g.known.length], Go.Rx.I out, Go.Rx.I 0], rfl, rfl, rfl, wk_refl _, rfl⟩
    have h2' : ¬ out = 2 := fun e => by rw [show (out == 2) = true from beq_iff_eq.2 e] at h2; cases h2
    have full : 200 ≤ g.entries.length ∨ 400 ≤ g.known.length → doL g x false out = (zL, 0, 7) := fun e => by rw [doL, if_neg hc', if_neg (by omega), if_pos e]
    refine ⟨hle, ?_⟩
    conv => whnf
    split <;> rename_i h3 <;> conv => whnf
    · have hd2 := hd.trans (full (.inl (by have := of_decide_eq_true h3; omega)))
      subst hd2
      exact ⟨[.cell 2 1 102 5, .cell 2 2 3 1], ⟨rfl, rfl, [5, 6], [.agg [.pv (pI 0), .own 0 0, .own 1 0], Go.Rx.I 0, Go.Rx.I 7], [.agg [.pv (pI 0), .own 0 0, .own 1 0], Go.Rx.I 0, Go.Rx.I 7], rfl, rfl, rfl, wk_refl _, rfl⟩⟩
    have h3' : g.entries.length < 200 := by have := of_decide_eq_false h3; omega
    refine ⟨hlk, ?_⟩
    conv => whnf
    split <;> rename_i h4 <;> conv => whnf
    · have hd2 := hd.trans (full (.inr (by have := of_decide_eq_true h4; omega)))
      subst hd2
      exact ⟨[.cell 2 1 102 5, .cell 2 2 3 1], ⟨rfl, rfl, [5, 6], [.agg [.pv (pI 0), .own 0 0, .own 1 0], Go.Rx.I 0, Go.Rx.I 7], [.agg [.pv (pI 0), .own 0 0, .own 1 0], Go.Rx.I 0, Go.Rx.I 7], rfl, rfl, rfl, wk_refl _, rfl⟩⟩
    have h4' : g.known.length < 400 := by have := of_decide_eq_false h4; omega
    refine ⟨[4, 5], _, _, _, _, _, nodupB_ok rfl, rfl, rfl, wk_refl _, ci (by omega), ?_⟩
    conv => whnf
    have hel2 : (g.entries ++ [x]).length = g.entries.length + 1 := by simp
    have goes : doL g x false out = (⟨g.service, if false then g.entries else g.entries ++ [x], nk⟩, ansL out, 0) := by rw [hnk, hps, doL, if_neg hc', if_neg (by omega), if_neg (by omega)]
    refine ⟨rfl, _, .inl rfl, ?_⟩
    conv => whnf
    refine ⟨hle, by show (g.entries.length + 1) * 56 ≤ _; omega, ?_⟩
    conv => whnf
    split <;> rename_i h5 <;> conv => whnf
    · have h5' : ¬ out = 0 := by have h6 : (out != 0) = true := h5; simpa using h6
      have hd2 : d = (⟨g.service, g.entries ++ [x], nk⟩, 2, 0) := hd.trans (by rw [goes, ansL, if_neg h5']; rfl)
      subst hd2
      refine ⟨[], [3, 4], [.agg [.pv (pI g.service), .own 0 (g.entries ++ [x]).length, .own 1 nk.length], Go.Rx.I 2, Go.Rx.I 0], [.agg [.pv (pI g.service), .own 0 (g.entries ++ [x]).length, .own 1 nk.length], Go.Rx.I 2, Go.Rx.I 0], rfl, ?p1, ?p2, wk_refl _, rfl⟩
      case p1 => show some [Blk.arr _ 5 (g.entries.map Entry.enc ++ [x.enc]), Blk.arr _ 1 (intRows nk)] = some (nbO ⟨g.service, g.entries ++ [x], _⟩); rw [nbO, List.map_append]; rfl
      case p2 => show some [AV.agg [.pv (pI g.service), .own 0 (g.entries.length + 1), .own 1 (g.known.length + 1)], Go.Rx.I 2, Go.Rx.I 0] = _; rw [hil, hel2]
    · have h5' : out = 0 := by have h6 : (out != 0) = false := h5; simpa using h6
      have hd2 : d = (⟨g.service, g.entries ++ [x], nk⟩, 0, 0) := hd.trans (by rw [goes, ansL, if_pos h5']; rfl)
      subst hd2
      refine ⟨[], [3, 4], [.agg [.pv (pI g.service), .own 0 (g.entries ++ [x]).length, .own 1 nk.length], Go.Rx.I 0, Go.Rx.I 0], [.agg [.pv (pI g.service), .own 0 (g.entries ++ [x]).length, .own 1 nk.length], Go.Rx.I 0, Go.Rx.I 0], rfl, ?q1, ?q2, wk_refl _, rfl⟩
      case q1 => show some [Blk.arr _ 5 (g.entries.map Entry.enc ++ [x.enc]), Blk.arr _ 1 (intRows nk)] = some (nbO ⟨g.service, g.entries ++ [x], _⟩); rw [nbO, List.map_append]; rfl
      case q2 => show some [AV.agg [.pv (pI g.service), .own 0 (g.entries.length + 1), .own 1 (g.known.length + 1)], Go.Rx.I 0, Go.Rx.I 0] = _; rw [hil, hel2]
theorem do_con (g : Ledger) (h : g.Ok) (hs : g.known.Pairwise (· < ·)) (x : Entry) (no : Bool) (out : Int) : Con P 173 [encLedger g, encEntry x, Bl no, I out] (ledO (doL g x no out)) (nbO (doL g x no out).1) := by
  cases no
  · exact doF_con g h hs x out
  · exact doT_con g h hs x out
end Go.Proofs.YtfjllfjmggooeaaGreatDoor.Rx

/- Worlds: data, and what a step makes of one, plain. -/
set_option linter.unusedVariables false
set_option linter.unusedSimpArgs false
namespace Go.Rx
structure Live where
  saga : Saga
  tries : Int
  due : Int
  write : Rec
  put : Bool
abbrev Live.enc (v : Live) : List PV := [pI v.saga.id, pS v.saga.key, pS v.saga.body, encSteps v.saga.steps, pI v.saga.done, pB v.saga.out, pB v.saga.back, pI v.saga.left, pI v.saga.status, pI v.tries, pI v.due,
  pI v.write.kind, pI v.write.id, pI v.write.n, pS v.write.key, pS v.write.body, encSteps v.write.steps, pB v.put]
abbrev Live.lfs (v : Live) : List Lf := [.pv (pI v.saga.id), .pv (pS v.saga.key), .pv (pS v.saga.body), .pv (encSteps v.saga.steps), .pv (pI v.saga.done), .pv (pB v.saga.out), .pv (pB v.saga.back), .pv (pI v.saga.left), .pv (pI v.saga.status), .pv (pI v.tries), .pv (pI v.due),
  .pv (pI v.write.kind), .pv (pI v.write.id), .pv (pI v.write.n), .pv (pS v.write.key), .pv (pS v.write.body), .pv (encSteps v.write.steps), .pv (pB v.put)]
abbrev encLive (v : Live) : AV := .agg v.lfs
structure Wd where
  clock : Int
  file : FileS
  ledgers : List Ledger
  lives : List Live
  outs : List Int
  taken : Int
abbrev encLedgers (l : List Ledger) : PV := .sl 3 (l.map Ledger.enc)
abbrev encLives (l : List Live) : PV := .sl 18 (l.map Live.enc)
abbrev Wd.lfs (w : Wd) : List Lf := [.pv (pI w.clock), .pv (pS w.file.safe), .pv (pS w.file.tail), .pv (pI w.file.cap), .pv (encLedgers w.ledgers), .pv (encLives w.lives), .pv (encInts w.outs), .pv (pI w.taken)]
abbrev encWd (w : Wd) : AV := .agg w.lfs
/-- A world whose slices are the call's own: the blocks n, n + 1, n + 2. -/
abbrev Wd.own (n : Nat) (w : Wd) : List Lf := [.pv (pI w.clock), .pv (pS w.file.safe), .pv (pS w.file.tail), .pv (pI w.file.cap), .own n w.ledgers.length, .own (n + 1) w.lives.length, .own (n + 2) w.outs.length, .pv (pI w.taken)]
def zRec : Rec := ⟨0, 0, 0, ⟨#[]⟩, ⟨#[]⟩, []⟩
def nothingB (r : Rec) : Bool := r.kind == 0 && (r.id == 0 && (r.n == 0 && (r.key == ⟨#[]⟩ && (r.body == ⟨#[]⟩ && ((r.steps.length : Int) == 0)))))
def fitsL (v : Live) : Bool := v.write.id == v.saga.id && (v.saga.status == 0 && fitsB v.saga v.write)
def liveB (v : Live) : Bool :=
  if decide (v.tries < 0) || (decide (1073741824 < v.tries) || (decide (v.due < 0) || decide (1073741832 < v.due))) then false
  else if nothingB v.write then !v.put else v.write.kind != 1 && (recB v.write && fitsL v)
def sagasL (l : List Live) : List Saga := l.map Live.saga
def ledgersGo : List Ledger → Nat → Bool
  | [], _ => true
  | g :: l, i => (g.service == ((i + 1 : Nat) : Int) && ledgerB g) && ledgersGo l (i + 1)
def ledgersB (l : List Ledger) : Bool := ledgersGo l 0 && ((l.length : Int) == 4)
def outBad (n : Int) : Bool := decide (n < 0) || decide (3 < n)
def worldB (w : Wd) : Bool :=
  if decide (w.clock < 0) || (decide (1073741824 < w.clock) || (decide (w.taken < 0) || (decide (1073741824 < w.taken) || (decide (400 < (w.outs.length : Int)) || w.outs.any outBad)))) then false
  else if !(fileB w.file) || (!(ledgersB w.ledgers) || !(togB (sagasL w.lives))) then false
  else !(w.lives.any fun v => !(liveB v))
/-! ### A step -/
def longGo : Nat → Int → Int
  | 0, n => n
  | k + 1, n => longGo k (if 8 < IntKind.i64.wrap (2 * n) then 8 else IntKind.i64.wrap (2 * n))
def longI (t : Int) : Int := longGo ((if 8 < t then 8 else t) - 1).toNat 1
def outW (w : Wd) : Int := if w.taken < w.outs.length then (w.outs[w.taken.toNat]?).getD 0 else 0
def callKey (id i : Int) : Int := IntKind.i64.wrap (IntKind.i64.wrap (id * 100) + IntKind.i64.wrap (2 * i))
def undoKey (id i : Int) : Int := IntKind.i64.wrap (callKey id i + 1)
def stepI (s : Saga) : Int := if s.back then IntKind.i64.wrap (s.left - 1) else s.done
def zStep : Step := ⟨⟨#[]⟩, 0, ⟨#[]⟩, ⟨#[]⟩, ⟨#[]⟩, 0⟩
def stepAt (s : Saga) : Step := (s.steps[(stepI s).toNat]?).getD zStep
def entryW (s : Saga) : Entry := if s.back then ⟨undoKey s.id (stepI s), true, (stepAt s).undo, (stepAt s).who, (stepAt s).n⟩ else ⟨callKey s.id (stepI s), false, (stepAt s).op, (stepAt s).who, (stepAt s).n⟩
def ledgAt (w : Wd) (s : Saga) : Ledger := (w.ledgers[((stepAt s).service - 1).toNat]?).getD zL
def noneAt (w : Wd) (s : Saga) : Bool := s.back && !(doneB (ledgAt w s).entries (callKey s.id (stepI s)))
def doneAt (w : Wd) (s : Saga) : Ledger × Int × Int := doL (ledgAt w s) (entryW s) (noneAt w s) (outW w)
def calledW (w : Wd) (s : Saga) : Wd := { w with ledgers := w.ledgers.set ((stepAt s).service - 1).toNat (doneAt w s).1, taken := IntKind.i64.wrap (w.taken + 1) }
/-- The record that an answer leads to (none: one waits), and the live behind it. -/
def answeredL (c : Int) (v : Live) (a : Int) : Live × Rec × Bool :=
  let s := v.saga
  if a = 2 then
    (if s.back || decide (IntKind.i64.wrap (v.tries + 1) < 4) then ({ v with tries := IntKind.i64.wrap (v.tries + 1), due := IntKind.i64.wrap (c + longI (IntKind.i64.wrap (v.tries + 1))) }, zRec, false)
     else ({ v with tries := IntKind.i64.wrap (v.tries + 1) }, { zRec with kind := 4, id := s.id }, true))
  else if a = 1 ∧ s.back = false then (v, { zRec with kind := 4, id := s.id }, true)
  else if a = 1 then (v, { zRec with kind := 6, id := s.id, n := 3 }, true)
  else if s.back then (v, { zRec with kind := 5, id := s.id, n := IntKind.i64.wrap (s.left - 1) }, true)
  else (v, { zRec with kind := 3, id := s.id, n := s.done }, true)
/-- What comes next of a live: the world, the live, the error. -/
def nextW (w : Wd) (v : Live) : Wd × Live × Int :=
  let s := v.saga
  if !s.back && (s.done == (s.steps.length : Int)) then (w, { v with write := { zRec with kind := 6, id := s.id, n := 1 } }, 0)
  else if s.back && (s.left == 0) then (w, { v with write := { zRec with kind := 6, id := s.id, n := 2 } }, 0)
  else if !s.back && !s.out then (w, { v with write := { zRec with kind := 2, id := s.id, n := s.done } }, 0)
  else if (doneAt w s).2.2 = 0 then (calledW w s, (if (answeredL w.clock v (doneAt w s).2.1).2.2 then { (answeredL w.clock v (doneAt w s).2.1).1 with write := (answeredL w.clock v (doneAt w s).2.1).2.1 } else (answeredL w.clock v (doneAt w s).2.1).1), 0)
  else (w, v, (doneAt w s).2.2)
def writtenW (w : Wd) (v : Live) : Wd × Live × Int :=
  if v.put then ({ w with file := (crashP w.file w.file.tail.size).1 }, ⟨nextS v.saga v.write, 0, w.clock, zRec, false⟩, 0)
  else if (jappP w.file v.write).2 = 0 then ({ w with file := (jappP w.file v.write).1 }, { v with put := true }, 0)
  else (w, v, (jappP w.file v.write).2)
def moveW (w : Wd) (v : Live) : Wd × Live × Int := if v.write.kind != 0 then writtenW w v else nextW w v
def dueB (c : Int) (v : Live) : Bool := v.saga.status == 0 && (v.write.kind != 0 || !(decide (c < v.due)))
/-- Which live goes on: the first that may. -/
def dueGo (c : Int) : List Live → Nat → Option Nat
  | [], _ => none
  | v :: l, k => if dueB c v then some k else dueGo c l (k + 1)
def dueI (w : Wd) : Option Nat := dueGo w.clock w.lives 0
def stepW (w : Wd) : Wd × Int :=
  match dueI w with
  | none => (w, 3)
  | some i => match w.lives[i]? with
    | none => (w, 3)
    | some v => if (moveW w v).2.2 = 0 then ({ (moveW w v).1 with lives := w.lives.set i (moveW w v).2.1 }, 0) else (w, (moveW w v).2.2)
def goW : Nat → Wd → Wd × Nat
  | 0, w => (w, 0)
  | k + 1, w => if (stepW w).2 = 0 then ((goW k (stepW w).1).1, (goW k (stepW w).1).2 + 1) else (w, 0)
end Go.Rx

/- May a world be? -/
set_option linter.unusedVariables false
set_option linter.unusedSimpArgs false
namespace Go.Rx
structure Live.Ok (v : Live) : Prop where
  saga : v.saga.Ok
  write : v.write.Ok
structure Wd.Ok (w : Wd) : Prop where
  file : w.file.Ok
  gl : w.ledgers.length * 56 ≤ 140737488351232
  ll : w.lives.length * 200 ≤ 140737488351232
  ol : w.outs.length * 8 ≤ 140737488351232
  ledgers : ∀ g ∈ w.ledgers, g.Ok
  lives : ∀ v ∈ w.lives, v.Ok
theorem sagasEnc (l : List Live) : (sagasL l).map Saga.enc = l.map fun v => v.saga.enc := by rw [sagasL, List.map_map]; rfl
end Go.Rx
namespace Go.Proofs.YtfjllfjmggooeaaGreatDoor.Rx
open Go.Rx Go.Proofs Go.Proofs.YtfjllfjmggooeaaGreatDoor.RxH
theorem nothing_con (r : Rec) : Con P 123 [encRec r] (Bl (nothingB r)) [] := by
  refine Con.of T_ok Tryz.func123 rfl (by kernel_rfl) (by kernel_rfl) (aw_of T_ok (by kernel_rfl) ?_)
  conv => whnf
  have hm : (r.steps.map Step.enc).length = r.steps.length := List.length_map ..
  split <;> rename_i h1 <;> conv => whnf
  rotate_left
  · exact finB ⟨by rw [nothingB, show (r.kind == 0) = false from h1]; rfl⟩
  split <;> rename_i h2 <;> conv => whnf
  rotate_left
  · exact finB ⟨by rw [nothingB, show (r.kind == 0) = true from h1, show (r.id == 0) = false from h2]; rfl⟩
  split <;> rename_i h3 <;> conv => whnf
  rotate_left
  · exact finB ⟨by rw [nothingB, show (r.kind == 0) = true from h1, show (r.id == 0) = true from h2, show (r.n == 0) = false from h3]; rfl⟩
  split <;> rename_i h4 <;> conv => whnf
  rotate_left
  · exact finB ⟨by rw [nothingB, show (r.kind == 0) = true from h1, show (r.id == 0) = true from h2, show (r.n == 0) = true from h3, show (r.key == ⟨#[]⟩) = false from h4]; rfl⟩
  split <;> rename_i h5 <;> conv => whnf
  rotate_left
  · exact finB ⟨by rw [nothingB, show (r.kind == 0) = true from h1, show (r.id == 0) = true from h2, show (r.n == 0) = true from h3, show (r.key == ⟨#[]⟩) = true from h4, show (r.body == ⟨#[]⟩) = false from h5]; rfl⟩
  exact finB ⟨by rw [nothingB, show (r.kind == 0) = true from h1, show (r.id == 0) = true from h2, show (r.n == 0) = true from h3, show (r.key == ⟨#[]⟩) = true from h4, show (r.body == ⟨#[]⟩) = true from h5]; exact congrArg (fun n : Nat => ((n : Int) == 0)) hm⟩
theorem live_con (v : Live) (hv : v.Ok) : Con P 90 [encLive v] (Bl (liveB v)) [] := by
  refine Con.of T_ok Tryz.func90 rfl (by kernel_rfl) (by kernel_rfl) (aw_of T_ok (by kernel_rfl) ?_)
  conv => whnf
  split <;> rename_i h1 <;> conv => whnf
  · exact finB ⟨by rw [liveB, if_pos (by rw [show decide (v.tries < 0) = true from h1]; rfl)]⟩
  split <;> rename_i h2 <;> conv => whnf
  · exact finB ⟨by rw [liveB, if_pos (by rw [show decide (v.tries < 0) = false from h1, show decide (1073741824 < v.tries) = true from h2]; rfl)]⟩
  split <;> rename_i h3 <;> conv => whnf
  · exact finB ⟨by rw [liveB, if_pos (by rw [show decide (v.tries < 0) = false from h1, show decide (1073741824 < v.tries) = false from h2, show decide (v.due < 0) = true from h3]; rfl)]⟩
  split <;> rename_i h4 <;> conv => whnf
  · exact finB ⟨by rw [liveB, if_pos (by rw [show decide (v.tries < 0) = false from h1, show decide (1073741824 < v.tries) = false from h2, show decide (v.due < 0) = false from h3, show decide (1073741832 < v.due) = true from h4]; rfl)]⟩
  have hb : liveB v = if nothingB v.write then !v.put else v.write.kind != 1 && (recB v.write && fitsL v) := by
    rw [liveB, if_neg (by rw [show decide (v.tries < 0) = false from h1, show decide (1073741824 < v.tries) = false from h2, show decide (v.due < 0) = false from h3, show decide (1073741832 < v.due) = false from h4]; decide)]
  rw [hb]
  refine callS (nothing_con v.write) rfl ?_
  conv => whnf
  split <;> rename_i h5 <;> conv => whnf
  · exact finB ⟨by rw [if_pos h5]⟩
  have h5' : ¬ nothingB v.write = true := by rw [show nothingB v.write = false from h5]; decide
  split <;> rename_i h6 <;> conv => whnf
  rotate_left
  · exact finB ⟨by rw [if_neg h5', show (v.write.kind != 1) = false from h6]; rfl⟩
  refine callS (recMay_con v.write hv.write) rfl ?_
  conv => whnf
  split <;> rename_i h7 <;> conv => whnf
  rotate_left
  · exact finB ⟨by rw [if_neg h5', show (v.write.kind != 1) = true from h6, show recB v.write = false from h7]; rfl⟩
  refine callS (fitsTop_con v.saga v.write) rfl ?_
  conv => whnf
  exact finB ⟨by rw [if_neg h5', show (v.write.kind != 1) = true from h6, show recB v.write = true from h7]; rfl⟩
theorem mayOut_con (n : Int) : Con P 83 [Go.Rx.I n] (Bl (outBad n)) [] := by
  refine Con.of T_ok Tryz.func83 rfl (by kernel_rfl) (by kernel_rfl) (aw_of T_ok (by kernel_rfl) ?_)
  conv => whnf
  split <;> rename_i h1 <;> conv => whnf
  · exact finB ⟨by rw [outBad, show decide (n < 0) = true from h1]; rfl⟩
  exact finB ⟨by rw [outBad, show decide (n < 0) = false from h1]; rfl⟩
theorem indexOut_con (l : List Int) (hl : l.length * 8 ≤ 140737488351232) : Con P 120 [.lf (.pv (encInts l)), .lf (.fn 83 [])] (I (idxL outBad l 0)) [] := by
  refine Con.of T_ok Tryz.func120 rfl (by kernel_rfl) (by kernel_rfl) (aw_of T_ok (by kernel_rfl) ?_)
  conv => whnf
  refine AW.loop (fun k : Nat => k ≤ l.length ∧ idxL outBad (l.drop k) k = idxL outBad l 0) (fun k => [(0, .lf (.pv (encInts l))), (1, .lf (.fn 83 [])), (7, Go.Rx.I l.length), (8, Go.Rx.I k)]) (fun _ => []) (fun k => l.length - k) [] ?_ ?_
  · exact ⟨0, ⟨Nat.zero_le _, rfl⟩, ⟨rfl, rfl, congrArg (fun n : Nat => Go.Rx.I (n : Int)) (List.length_map ..), rfl, trivial⟩, ⟨[], rfl⟩, rfl, rfl⟩
  · rintro k ⟨hk, hpre⟩
    refine aw_of T_ok (by kernel_rfl) ?_
    conv => whnf
    split <;> rename_i hlt <;> conv => whnf
    · have hkl : k < l.length := by simpa using hlt
      rw [idx_go hkl] at hpre
      refine ⟨by omega, [pI l[k]], by simp [hkl], ?_⟩
      conv => whnf
      refine callS (mayOut_con l[k]) rfl ?_
      conv => whnf
      split <;> rename_i he <;> conv => whnf
      · refine finI ⟨?_⟩
        rw [← hpre, if_pos (show outBad l[k] = true from he)]
      · refine ⟨k + 1, ⟨⟨by omega, ?_⟩, by omega⟩, ⟨rfl, rfl, rfl, congrArg Go.Rx.I (wrapI (by omega)), trivial⟩, ⟨[], rfl⟩, rfl, rfl⟩
        rw [← hpre, if_neg (by rw [show outBad l[k] = false from he]; decide)]
    · refine finI ⟨?_⟩
      have hkl : l.length ≤ k := by simpa using hlt
      rw [← hpre, idx_end hkl]
theorem anyOut_con (l : List Int) (hl : l.length * 8 ≤ 140737488351232) : Con P 84 [.lf (.pv (encInts l)), .lf (.fn 83 [])] (Bl (l.any outBad)) [] := by
  refine Con.of T_ok Tryz.func84 rfl (by kernel_rfl) (by kernel_rfl) (aw_of T_ok (by kernel_rfl) ?_)
  conv => whnf
  refine callS (indexOut_con l hl) rfl ?_
  conv => whnf
  exact finB ⟨idx_any l 0⟩
theorem indexLv_con (f : FuncId) (p : Live → Bool) (l : List Live) (hl : l.length * 200 ≤ 140737488351232) (hf : ∀ v ∈ l, Con P f [encLive v] (Bl (p v)) []) : Con P 91 [.lf (.pv (encLives l)), .lf (.fn f [])] (I (idxL p l 0)) [] := by
  refine Con.of T_ok Tryz.func91 rfl (by kernel_rfl) (by kernel_rfl) (aw_of T_ok (by kernel_rfl) ?_)
  conv => whnf
  refine AW.loop (fun k : Nat => k ≤ l.length ∧ idxL p (l.drop k) k = idxL p l 0) (fun k => [(0, .lf (.pv (encLives l))), (1, .lf (.fn f [])), (7, Go.Rx.I l.length), (8, Go.Rx.I k)]) (fun _ => []) (fun k => l.length - k) [] ?_ ?_
  · exact ⟨0, ⟨Nat.zero_le _, rfl⟩, ⟨rfl, rfl, congrArg (fun n : Nat => Go.Rx.I (n : Int)) (List.length_map ..), rfl, trivial⟩, ⟨[], rfl⟩, rfl, rfl⟩
  · rintro k ⟨hk, hpre⟩
    refine aw_of T_ok (by kernel_rfl) ?_
    conv => whnf
    split <;> rename_i hlt <;> conv => whnf
    · have hkl : k < l.length := by simpa using hlt
      rw [idx_go hkl] at hpre
      refine ⟨by omega, (l[k]).enc, by simp [hkl], ?_⟩
      conv => whnf
      refine callS (hf l[k] (List.getElem_mem hkl)) rfl ?_
      conv => whnf
      split <;> rename_i he <;> conv => whnf
      · refine finI ⟨?_⟩
        rw [← hpre, if_pos (show p l[k] = true from he)]
      · refine ⟨k + 1, ⟨⟨by omega, ?_⟩, by omega⟩, ⟨rfl, rfl, rfl, congrArg Go.Rx.I (wrapI (by omega)), trivial⟩, ⟨[], rfl⟩, rfl, rfl⟩
        rw [← hpre, if_neg (by rw [show p l[k] = false from he]; decide)]
    · refine finI ⟨?_⟩
      have hkl : l.length ≤ k := by simpa using hlt
      rw [← hpre, idx_end hkl]
theorem anyLv_con (f : FuncId) (p : Live → Bool) (l : List Live) (hl : l.length * 200 ≤ 140737488351232) (hf : ∀ v ∈ l, Con P f [encLive v] (Bl (p v)) []) : Con P 51 [.lf (.pv (encLives l)), .lf (.fn f [])] (Bl (l.any p)) [] := by
  refine Con.of T_ok Tryz.func51 rfl (by kernel_rfl) (by kernel_rfl) (aw_of T_ok (by kernel_rfl) ?_)
  conv => whnf
  refine callS (indexLv_con f p l hl hf) rfl ?_
  conv => whnf
  exact finB ⟨idx_any l 0⟩
theorem may2_con (v : Live) (hv : v.Ok) : Con P 89 [encLive v] (Bl (!(liveB v))) [] := by
  refine Con.of T_ok Tryz.func89 rfl (by kernel_rfl) (by kernel_rfl) (aw_of T_ok (by kernel_rfl) ?_)
  conv => whnf
  refine callS (live_con v hv) rfl ?_
  conv => whnf
  exact finB ⟨rfl⟩
theorem idle1_con (v : Live) : Con P 52 [encLive v] (Bl (v.saga.status == 0)) [] := by
  refine Con.of T_ok Tryz.func52 rfl (by kernel_rfl) (by kernel_rfl) (aw_of T_ok (by kernel_rfl) ?_)
  conv => whnf
  exact finB ⟨rfl⟩
theorem sagas_con (l : List Live) (hl : l.length * 200 ≤ 140737488351232) : Con P 88 [.lf (.pv (encLives l))] (.lf (.own 0 (sagasL l).length)) [.arr 40 9 ((sagasL l).map Saga.enc)] := by
  have hsl : ∀ m : List Live, (sagasL m).length = m.length := fun m => List.length_map ..
  refine ConG.con (ConG.of T_ok Tryz.func88 rfl (by kernel_rfl) (by kernel_rfl) (aw_of T_ok (by kernel_rfl) ?_)) rfl
  conv => whnf
  refine AW.loop (fun k : Nat => k ≤ l.length) (fun k => [(2, .lf (.own 0 (sagasL (l.take k)).length)), (5, .lf (.pv (encLives l))), (6, Go.Rx.I l.length), (7, Go.Rx.I k)]) (fun k => [.arr 40 9 ((sagasL (l.take k)).map Saga.enc)]) (fun k => l.length - k) [.slot 2 40 9] ?_ ?_
  · exact ⟨rfl, 0, Nat.zero_le _, ⟨rfl, rfl, congrArg (fun n : Nat => Go.Rx.I (n : Int)) (List.length_map ..), rfl, trivial⟩, ⟨[], rfl⟩, rfl, rfl⟩
  intro k hk
  refine aw_of T_ok (by kernel_rfl) ?_
  conv => whnf
  split <;> rename_i hlt <;> conv => whnf
  · have hkl : k < l.length := by simpa using hlt
    have hnx : sagasL (l.take (k + 1)) = sagasL (l.take k) ++ [l[k].saga] := by rw [sagasL, take_succ' hkl, List.map_append]; rfl
    refine ⟨by omega, (l[k]).enc, by simp [hkl], ?_⟩
    conv => whnf
    refine ⟨rfl, _, .inl rfl, ?_⟩
    conv => whnf
    have hb := hsl (l.take k)
    rw [List.length_take] at hb
    refine ⟨List.length_map .., by show ((sagasL (l.take k)).length + 1) * 96 ≤ _; omega, ?_⟩
    conv => whnf
    refine ⟨k + 1, ⟨hkl, by omega⟩, ⟨?zu, rfl, rfl, congrArg Go.Rx.I (wrapI (by omega)), trivial⟩, ⟨[?zr1, ?zr2], ?zb⟩, rfl, rfl⟩
    case zu => rw [hnx, List.length_append]; rfl
    case zb =>
      show _ = [Blk.arr _ 9 ((sagasL (l.take (k + 1))).map Saga.enc)] ++ [_, _]
      rw [hnx, List.map_append]
      rfl
  · have hkl : l.take k = l := List.take_of_length_le (by simpa using hlt)
    rw [hkl]
    exact ⟨[], [0], [.lf (.own 0 (sagasL l).length)], [.lf (.own 0 (sagasL l).length)], rfl, rfl, rfl, wk_refl _, rfl⟩
end Go.Proofs.YtfjllfjmggooeaaGreatDoor.Rx

/- The arguments of the worlds' laws, opened. -/
set_option linter.unusedVariables false
namespace Go.Rx
structure WAct where
  act : Int
  n : Int
  r : Rec
abbrev WAct.enc (a : WAct) : List PV := [pI a.act, pI a.n, pI a.r.kind, pI a.r.id, pI a.r.n, pS a.r.key, pS a.r.body, encSteps a.r.steps]
structure WScript where
  w : Wd
  l : List WAct
structure WScript.Ok (p : WScript) : Prop where
  w : p.w.Ok
  len : p.l.length * 96 ≤ 140737488351232
  each : ∀ a ∈ p.l, a.r.Ok
abbrev encWActs (l : List WAct) : PV := .sl 8 (l.map WAct.enc)
abbrev encWScript (p : WScript) : AV := .agg [.pv (pI p.w.clock), .pv (pS p.w.file.safe), .pv (pS p.w.file.tail), .pv (pI p.w.file.cap), .pv (encLedgers p.w.ledgers), .pv (encLives p.w.lives), .pv (encInts p.w.outs), .pv (pI p.w.taken), .pv (encWActs p.l)]
end Go.Rx
namespace Go.Proofs.YtfjllfjmggooeaaGreatDoor.Rx
open Go.Rx Go.Rx.Lift Go.Proofs
theorem opEntryW : Opens P 102 Entry.enc Entry.Ok := by
  have h := opens_struct (total := 5) Tryz.underlying102 (by kernel_rfl) (from_cons 1 rfl rfl (by kernel_rfl) opInt (from_cons 1 rfl rfl (by kernel_rfl) opBool (from_cons 1 rfl rfl (by kernel_rfl) opStr (from_cons 1 rfl rfl (by kernel_rfl) opStr (from_last 1 rfl rfl (by kernel_rfl) rfl opInt)))))
  exact opens_iso (fun q : Int × Bool × ByteArray × ByteArray × Int => ⟨q.1, q.2.1, q.2.2.1, q.2.2.2.1, q.2.2.2.2⟩) (fun _ => rfl) (fun _ h => ⟨h.2.2.1, h.2.2.2.1⟩) h
theorem opLedgerW : Opens P 47 Ledger.enc Ledger.Ok := by
  have h := opens_struct (total := 3) Tryz.underlying47 (by kernel_rfl) (from_cons 1 rfl rfl (by kernel_rfl) opInt (from_cons 1 rfl rfl (by kernel_rfl) (opens_slice (sz := 5) (B := 56) Tryz.underlying45 (by kernel_rfl) (by decide) (by kernel_rfl) opEntryW) (from_last 1 rfl rfl (by kernel_rfl) rfl (opens_slice (sz := 1) (B := 8) Tryz.underlying26 (by kernel_rfl) (by decide) (by kernel_rfl) opInt))))
  exact opens_iso (fun q : Int × List Entry × List Int => ⟨q.1, q.2.1, q.2.2⟩) (fun _ => rfl) (fun _ h => ⟨h.2.1.1, h.2.2.1, h.2.1.2⟩) h
theorem opFileW : Opens P 23 FileS.enc FileS.Ok := by
  have h := opens_struct (total := 3) Tryz.underlying23 (by kernel_rfl) (from_cons 1 rfl rfl (by kernel_rfl) opStr (from_cons 1 rfl rfl (by kernel_rfl) opStr (from_last 1 rfl rfl (by kernel_rfl) rfl opInt)))
  exact opens_iso (fun q : ByteArray × ByteArray × Int => ⟨q.1, q.2.1, q.2.2⟩) (fun _ => rfl) (fun _ h => ⟨h.1, h.2.1⟩) h
theorem opLive : Opens P 44 Live.enc Live.Ok := by
  have h := opens_struct (total := 18) Tryz.underlying44 (by kernel_rfl) (from_cons 9 rfl rfl (by kernel_rfl) opSaga (from_cons 1 rfl rfl (by kernel_rfl) opInt (from_cons 1 rfl rfl (by kernel_rfl) opInt (from_cons 6 rfl rfl (by kernel_rfl) opRec (from_last 1 rfl rfl (by kernel_rfl) rfl opBool)))))
  exact opens_iso (fun q : Saga × Int × Int × Rec × Bool => ⟨q.1, q.2.1, q.2.2.1, q.2.2.2.1, q.2.2.2.2⟩) (fun _ => rfl) (fun _ h => ⟨h.1, h.2.2.2.1⟩) h
theorem opWd : Opens P 28 (fun w : Wd => [pI w.clock, pS w.file.safe, pS w.file.tail, pI w.file.cap, encLedgers w.ledgers, encLives w.lives, encInts w.outs, pI w.taken]) Wd.Ok := by
  have h := opens_struct (total := 8) Tryz.underlying28 (by kernel_rfl) (from_cons 1 rfl rfl (by kernel_rfl) opInt (from_cons 3 rfl rfl (by kernel_rfl) opFileW
    (from_cons 1 rfl rfl (by kernel_rfl) (opens_slice (sz := 3) (B := 56) Tryz.underlying24 (by kernel_rfl) (by decide) (by kernel_rfl) opLedgerW)
    (from_cons 1 rfl rfl (by kernel_rfl) (opens_slice (sz := 18) (B := 200) Tryz.underlying25 (by kernel_rfl) (by decide) (by kernel_rfl) opLive)
    (from_cons 1 rfl rfl (by kernel_rfl) (opens_slice (sz := 1) (B := 8) Tryz.underlying26 (by kernel_rfl) (by decide) (by kernel_rfl) opInt) (from_last 1 rfl rfl (by kernel_rfl) rfl opInt))))))
  exact opens_iso (fun q : Int × FileS × List Ledger × List Live × List Int × Int => ⟨q.1, q.2.1, q.2.2.1, q.2.2.2.1, q.2.2.2.2.1, q.2.2.2.2.2⟩) (fun _ => rfl) (fun _ h => ⟨h.2.1, h.2.2.1.1, h.2.2.2.1.1, h.2.2.2.2.1.1, h.2.2.1.2, h.2.2.2.1.2⟩) h
theorem opWAct : Opens P 75 WAct.enc (fun a => a.r.Ok) := by
  have h := opens_struct (total := 8) Tryz.underlying75 (by kernel_rfl) (from_cons 1 rfl rfl (by kernel_rfl) opInt (from_cons 1 rfl rfl (by kernel_rfl) opInt (from_last 6 rfl rfl (by kernel_rfl) rfl opRec)))
  exact opens_iso (fun q : Int × Int × Rec => ⟨q.1, q.2.1, q.2.2⟩) (fun _ => rfl) (fun _ h => h.2.2) h
theorem opWScript : Opens P 31 (fun p : WScript => [pI p.w.clock, pS p.w.file.safe, pS p.w.file.tail, pI p.w.file.cap, encLedgers p.w.ledgers, encLives p.w.lives, encInts p.w.outs, pI p.w.taken, encWActs p.l]) WScript.Ok := by
  have h := opens_struct (total := 9) Tryz.underlying31 (by kernel_rfl) (from_cons 8 rfl rfl (by kernel_rfl) opWd (from_last 1 rfl rfl (by kernel_rfl) rfl (opens_slice (sz := 8) (B := 96) Tryz.underlying29 (by kernel_rfl) (by decide) (by kernel_rfl) opWAct)))
  exact opens_iso (fun q : Wd × List WAct => ⟨q.1, q.2⟩) (fun _ => rfl) (fun _ h => ⟨h.1, h.2.1, h.2.2⟩) h
end Go.Proofs.YtfjllfjmggooeaaGreatDoor.Rx

/- May a world be: the whole. -/
set_option linter.unusedVariables false
set_option linter.unusedSimpArgs false
namespace Go.Rx
theorem ledg_go {l : List Ledger} {k : Nat} (h : k < l.length) : ledgersGo (l.drop k) k = ((l[k].service == ((k + 1 : Nat) : Int) && ledgerB l[k]) && ledgersGo (l.drop (k + 1)) (k + 1)) := by
  rw [List.drop_eq_getElem_cons h, ledgersGo]
theorem tog_saga {l : List Live} (h : togB (sagasL l) = true) {v : Live} (hv : v ∈ l) : sagaB v.saga = true := by
  rw [togB, Bool.and_eq_true] at h
  obtain ⟨i, hi, e⟩ := List.getElem_of_mem hv
  have hl : i < (sagasL l).length := by rw [sagasL, List.length_map]; exact hi
  have h1 := List.all_eq_true.1 h.1 i (List.mem_range.2 hl)
  rw [togAt_eq hl, Bool.and_eq_true] at h1
  have : (sagasL l)[i] = v.saga := by rw [← e]; exact List.getElem_map ..
  rw [this] at h1
  exact h1.1
end Go.Rx
namespace Go.Proofs.YtfjllfjmggooeaaGreatDoor.Rx
open Go.Rx Go.Proofs Go.Proofs.YtfjllfjmggooeaaGreatDoor.RxH
theorem ledgers_con (l : List Ledger) (hl : l.length * 56 ≤ 140737488351232) (hg : ∀ g ∈ l, g.Ok) : Con P 86 [.lf (.pv (encLedgers l))] (Bl (ledgersB l)) [] := by
  have hm : (l.map Ledger.enc).length = l.length := List.length_map ..
  obtain ⟨r, hr⟩ : ∃ r, r = ledgersB l := ⟨_, rfl⟩
  rw [← hr]
  rw [ledgersB] at hr
  refine Con.of T_ok Tryz.func86 rfl (by kernel_rfl) (by kernel_rfl) (aw_of T_ok (by kernel_rfl) ?_)
  conv => whnf
  refine AW.loop (fun k : Nat => k ≤ l.length ∧ (ledgersGo (l.drop k) k && ((l.length : Int) == 4)) = r) (fun k => [(0, .lf (.pv (encLedgers l))), (5, .lf (.pv (encLedgers l))), (6, Go.Rx.I l.length), (7, Go.Rx.I k)]) (fun _ => []) (fun k => l.length - k) [] ?_ ?_
  · exact ⟨0, ⟨Nat.zero_le _, hr.symm⟩, ⟨rfl, rfl, congrArg (fun n : Nat => Go.Rx.I (n : Int)) (List.length_map ..), rfl, trivial⟩, ⟨[], rfl⟩, rfl, rfl⟩
  · rintro k ⟨hk, hpre⟩
    refine aw_of T_ok (by kernel_rfl) ?_
    conv => whnf
    split <;> rename_i hlt <;> conv => whnf
    · have hkl : k < l.length := by simpa using hlt
      have hrow : (l.map Ledger.enc)[k]? = some l[k].enc := by simp [hkl]
      have hok := hg l[k] (List.getElem_mem hkl)
      rw [ledg_go hkl] at hpre
      generalize l[k] = g at hrow hok hpre
      have wk : IntKind.i64.wrap ((k : Int) + 1) = ((k + 1 : Nat) : Int) := wrapI (by omega)
      refine ⟨by omega, _, hrow, ?_⟩
      conv => whnf
      split <;> rename_i h1 <;> conv => whnf
      · have h1' : (g.service != IntKind.i64.wrap ((k : Int) + 1)) = true := h1
        rw [wk] at h1'
        refine finB ⟨?_⟩
        have : (g.service == ((k + 1 : Nat) : Int)) = false := by simpa using h1'
        rw [← hpre, this]; rfl
      · have h1' : (g.service != IntKind.i64.wrap ((k : Int) + 1)) = false := h1
        rw [wk] at h1'
        have e1 : (g.service == ((k + 1 : Nat) : Int)) = true := by simpa using h1'
        refine callS (ledgerMay_con g hok) rfl ?_
        conv => whnf
        split <;> rename_i h2 <;> conv => whnf
        · have h2' : ledgerB g = false := by simpa using h2
          refine finB ⟨?_⟩
          rw [← hpre, e1, h2']; rfl
        · have h2' : ledgerB g = true := by simpa using h2
          refine ⟨k + 1, ⟨⟨hkl, ?_⟩, by omega⟩, ⟨rfl, rfl, rfl, congrArg Go.Rx.I wk, trivial⟩, ⟨[_], rfl⟩, rfl, rfl⟩
          rw [← hpre, e1, h2']; rfl
    · have hkl : l.length ≤ k := by simpa using hlt
      refine finB ⟨?_⟩
      rw [← hpre, List.drop_of_length_le hkl]
      show (((l.map Ledger.enc).length : Int) == 4) = (true && ((l.length : Int) == 4))
      rw [hm, Bool.true_and]
theorem worldMay_con (w : Wd) (hw : w.Ok) : Con P 50 [encWd w] (Bl (worldB w)) [] := by
  have hol : (w.outs.map fun n => [pI n]).length = w.outs.length := List.length_map ..
  have c1 := anyOut_con w.outs hw.ol
  have c2 := fmay_con w.file hw.file
  have c3 := ledgers_con w.ledgers hw.gl hw.ledgers
  have c4 := sagas_con w.lives hw.ll
  have hsm : ((sagasL w.lives).map Saga.enc).length = (sagasL w.lives).length := List.length_map ..
  have c5 := replayMay_con (sagasL w.lives) (by rw [sagasL, List.length_map]; have := hw.ll; omega) (fun s hs => by rw [sagasL, List.mem_map] at hs; obtain ⟨v, hv, rfl⟩ := hs; exact (hw.lives v hv).saga)
  have c6 := anyLv_con 89 (fun v => !(liveB v)) w.lives hw.ll (fun v hv => may2_con v (hw.lives v hv))
  obtain ⟨r, hr⟩ : ∃ r, r = worldB w := ⟨_, rfl⟩
  rw [← hr]
  rw [worldB] at hr
  generalize w.outs.any outBad = b1 at c1 hr
  generalize fileB w.file = b2 at c2 hr
  generalize ledgersB w.ledgers = b3 at c3 hr
  generalize togB (sagasL w.lives) = b4 at c5 hr
  generalize (w.lives.any fun v => !(liveB v)) = b6 at c6 hr
  refine Con.of T_ok Tryz.func50 rfl (by kernel_rfl) (by kernel_rfl) (aw_of T_ok (by kernel_rfl) ?_)
  conv => whnf
  split <;> rename_i h1 <;> conv => whnf
  · exact finB ⟨by rw [hr, if_pos (by rw [show decide (w.clock < 0) = true from h1]; rfl)]⟩
  split <;> rename_i h2 <;> conv => whnf
  · exact finB ⟨by rw [hr, if_pos (by rw [show decide (w.clock < 0) = false from h1, show decide (1073741824 < w.clock) = true from h2]; rfl)]⟩
  split <;> rename_i h3 <;> conv => whnf
  · exact finB ⟨by rw [hr, if_pos (by rw [show decide (w.clock < 0) = false from h1, show decide (1073741824 < w.clock) = false from h2, show decide (w.taken < 0) = true from h3]; rfl)]⟩
  split <;> rename_i h4 <;> conv => whnf
  · exact finB ⟨by rw [hr, if_pos (by rw [show decide (w.clock < 0) = false from h1, show decide (1073741824 < w.clock) = false from h2, show decide (w.taken < 0) = false from h3, show decide (1073741824 < w.taken) = true from h4]; rfl)]⟩
  have e5 : ∀ b, decide (((w.outs.map fun n => [pI n]).length : Int) > 400) = b → decide (400 < (w.outs.length : Int)) = b := fun b h => by rw [hol] at h; exact h
  split <;> rename_i h5 <;> conv => whnf
  · exact finB ⟨by rw [hr, if_pos (by rw [show decide (w.clock < 0) = false from h1, show decide (1073741824 < w.clock) = false from h2, show decide (w.taken < 0) = false from h3, show decide (1073741824 < w.taken) = false from h4, e5 _ h5]; rfl)]⟩
  refine callS c1 rfl ?_
  conv => whnf
  cases b1 with
  | true =>
    conv => whnf
    exact finB ⟨by rw [hr, if_pos (by rw [show decide (w.clock < 0) = false from h1, show decide (1073741824 < w.clock) = false from h2, show decide (w.taken < 0) = false from h3, show decide (1073741824 < w.taken) = false from h4, e5 _ h5]; rfl)]⟩
  | false =>
  conv => whnf
  rw [if_neg (by rw [show decide (w.clock < 0) = false from h1, show decide (1073741824 < w.clock) = false from h2, show decide (w.taken < 0) = false from h3, show decide (1073741824 < w.taken) = false from h4, e5 _ h5]; decide)] at hr
  refine callS c2 rfl ?_
  conv => whnf
  cases b2 with
  | false =>
    conv => whnf
    exact finB ⟨by rw [hr]; rfl⟩
  | true =>
  conv => whnf
  refine callS c3 rfl ?_
  conv => whnf
  cases b3 with
  | false =>
    conv => whnf
    exact finB ⟨by rw [hr]; rfl⟩
  | true =>
  conv => whnf
  refine ⟨_, _, _, wk_refl _, c4, .inr ?_⟩
  conv => whnf
  refine ⟨hsm, ?_⟩
  conv => whnf
  refine callS c5 rfl ?_
  conv => whnf
  cases b4 with
  | false =>
    conv => whnf
    exact finB ⟨by rw [hr]; rfl⟩
  | true =>
  conv => whnf
  refine callS c6 rfl ?_
  conv => whnf
  exact finB ⟨by rw [hr]; rfl⟩
end Go.Proofs.YtfjllfjmggooeaaGreatDoor.Rx

/- What the steps of a world lean on: keys, waits, new files, memory of one's own. -/
set_option linter.unusedVariables false
set_option linter.unusedSimpArgs false
namespace Go.Rx
def newF (n : Int) : FileS × Int := if fileB ⟨⟨#[]⟩, ⟨#[]⟩, n⟩ then (⟨⟨#[]⟩, ⟨#[]⟩, n⟩, 0) else (zF, 1)
abbrev pairI (p : Int × Int) : AV := .tup [.lf (.pv (pI p.1)), .lf (.pv (pI p.2))]
end Go.Rx
namespace Go.Proofs.YtfjllfjmggooeaaGreatDoor.Rx
open Go.Rx Go.Proofs Go.Proofs.YtfjllfjmggooeaaGreatDoor.RxH
theorem pair_con' (id i : Int) : Con P 171 [Go.Rx.I id, Go.Rx.I i] (pairI (callKey id i, undoKey id i)) [] := by
  refine Con.of T_ok Tryz.func171 rfl (by kernel_rfl) (by kernel_rfl) (aw_of T_ok (by kernel_rfl) ?_)
  conv => whnf
  exact ⟨_, wk_refl _, rfl⟩
theorem long_con (t : Int) (ht : 0 ≤ t) (ht2 : t ≤ 4611686018427387904) : Con P 175 [Go.Rx.I t] (Go.Rx.I (longI t)) [] := by
  obtain ⟨m, hm⟩ : ∃ m : Int, m = (if 8 < t then 8 else t) - 1 := ⟨_, rfl⟩
  have hm1 : -1 ≤ m ∧ m ≤ 7 := by rw [hm]; split <;> omega
  have hw : IntKind.i64.wrap ((if 8 < t then 8 else t) - 1) = m := by rw [← hm]; exact wrapI (by omega)
  obtain ⟨r, hr⟩ : ∃ r, r = longI t := ⟨_, rfl⟩
  rw [← hr]
  rw [longI, ← hm] at hr
  refine Con.of T_ok Tryz.func175 rfl (by kernel_rfl) (by kernel_rfl) (aw_of T_ok (by kernel_rfl) ?_)
  conv => whnf
  refine AW.loop (fun p : Nat × Int => (p.1 : Int) ≤ (if m < 0 then 0 else m) ∧ longGo (m.toNat - p.1) p.2 = r) (fun p => [(3, Go.Rx.I p.2), (6, Go.Rx.I m), (7, Go.Rx.I p.1)]) (fun _ => []) (fun p => m.toNat - p.1) [] ?_ ?_
  · refine ⟨(0, 1), ⟨by split <;> (try show (0 : Int) ≤ _) <;> omega, hr.symm⟩, ⟨rfl, congrArg Go.Rx.I hw, rfl, trivial⟩, ⟨[], rfl⟩, rfl, rfl⟩
  rintro ⟨k, n⟩ ⟨hk, hpre⟩
  simp only at hk hpre
  refine aw_of T_ok (by kernel_rfl) ?_
  conv => whnf
  split <;> rename_i hlt <;> conv => whnf
  · have hkl : (k : Int) < m := of_decide_eq_true hlt
    have e : m.toNat - k = (m.toNat - (k + 1)) + 1 := by omega
    rw [e, longGo] at hpre
    refine ⟨(k + 1, if 8 < IntKind.i64.wrap (2 * n) then 8 else IntKind.i64.wrap (2 * n)), ⟨⟨?zp, hpre⟩, ?zq⟩, ⟨rfl, rfl, congrArg Go.Rx.I (wrapI (by omega)), trivial⟩, ⟨[], rfl⟩, rfl, rfl⟩
    case zp => show ((k + 1 : Nat) : Int) ≤ _; split <;> omega
    case zq => show m.toNat - (k + 1) < m.toNat - k; omega
  · have hkl : ¬ (k : Int) < m := of_decide_eq_false hlt
    have e : m.toNat - k = 0 := by omega
    rw [e, longGo] at hpre
    exact finI ⟨hpre⟩
theorem fnew_con (n : Int) : Con P 65 [Go.Rx.I n] (fileE (newF n)) [] := by
  have hr : newF n = if fileB ⟨⟨#[]⟩, ⟨#[]⟩, n⟩ then (⟨⟨#[]⟩, ⟨#[]⟩, n⟩, 0) else (zF, 1) := rfl
  have c1 := fmay_con ⟨⟨#[]⟩, ⟨#[]⟩, n⟩ ⟨Nat.zero_le _, Nat.zero_le _⟩
  obtain ⟨r, he⟩ : ∃ r, r = newF n := ⟨_, rfl⟩
  rw [← he]
  rw [← he] at hr
  refine Con.of T_ok Tryz.func65 rfl (by kernel_rfl) (by kernel_rfl) (aw_of T_ok (by kernel_rfl) ?_)
  conv => whnf
  refine callS c1 rfl ?_
  conv => whnf
  split <;> rename_i h1 <;> conv => whnf
  · have h1' : fileB ⟨⟨#[]⟩, ⟨#[]⟩, n⟩ = false := by simpa using h1
    rw [if_neg (by rw [h1']; decide)] at hr
    exact finFE ⟨hr.symm⟩
  · have h1' : fileB ⟨⟨#[]⟩, ⟨#[]⟩, n⟩ = true := by simpa using h1
    rw [if_pos h1'] at hr
    exact finFE ⟨hr.symm⟩
theorem cloneG_con (l : List Ledger) (hl : l.length * 56 ≤ 140737488351232) : Con P 93 [.lf (.pv (encLedgers l))] (.lf (.own 0 l.length)) [.arr 47 3 (l.map Ledger.enc)] := by
  have hm : (l.map Ledger.enc).length = l.length := List.length_map ..
  refine ConG.con (ConG.of T_ok Tryz.func93 rfl (by kernel_rfl) (by kernel_rfl) (aw_ofC T_ok 2001 (by kernel_rfl) ?_)) rfl
  conv => whnf
  refine AW.seq (AW.nilTest T_ok rfl rfl (by decide) ?_ ?_) fun sl bk h => aw_of T_ok (by kernel_rfl) h
  · intro h0
    conv => whnf
    have hl0 : l = [] := by simpa using h0
    subst hl0
    exact ⟨[.slot 2 47 3], rfl, [0], [.lf (.own 0 0)], [.lf (.own 0 0)], rfl, rfl, rfl, wk_refl _, rfl⟩
  · conv => whnf
    refine ⟨_, .inl rfl, ?_⟩
    conv => whnf
    refine ⟨rfl, by show (0 + (l.map Ledger.enc).length) * 56 ≤ _; omega, ?_⟩
    conv => whnf
    refine ⟨[], [0], [.lf (.own 0 l.length)], [.lf (.own 0 l.length)], rfl, rfl, ?_, wk_refl _, rfl⟩
    show some [AV.lf (.own 0 (0 + (l.map Ledger.enc).length))] = _
    rw [hm, Nat.zero_add]
theorem cloneL_con (l : List Live) (hl : l.length * 200 ≤ 140737488351232) : Con P 94 [.lf (.pv (encLives l))] (.lf (.own 0 l.length)) [.arr 44 18 (l.map Live.enc)] := by
  have hm : (l.map Live.enc).length = l.length := List.length_map ..
  refine ConG.con (ConG.of T_ok Tryz.func94 rfl (by kernel_rfl) (by kernel_rfl) (aw_ofC T_ok 2001 (by kernel_rfl) ?_)) rfl
  conv => whnf
  refine AW.seq (AW.nilTest T_ok rfl rfl (by decide) ?_ ?_) fun sl bk h => aw_of T_ok (by kernel_rfl) h
  · intro h0
    conv => whnf
    have hl0 : l = [] := by simpa using h0
    subst hl0
    exact ⟨[.slot 2 44 18], rfl, [0], [.lf (.own 0 0)], [.lf (.own 0 0)], rfl, rfl, rfl, wk_refl _, rfl⟩
  · conv => whnf
    refine ⟨_, .inl rfl, ?_⟩
    conv => whnf
    refine ⟨rfl, by show (0 + (l.map Live.enc).length) * 200 ≤ _; omega, ?_⟩
    conv => whnf
    refine ⟨[], [0], [.lf (.own 0 l.length)], [.lf (.own 0 l.length)], rfl, rfl, ?_, wk_refl _, rfl⟩
    show some [AV.lf (.own 0 (0 + (l.map Live.enc).length))] = _
    rw [hm, Nat.zero_add]
end Go.Proofs.YtfjllfjmggooeaaGreatDoor.Rx

/- A step's call. -/
set_option linter.unusedVariables false
set_option linter.unusedSimpArgs false
namespace Go.Rx
abbrev ledQ (p : Ledger × Int × Int) : AV := .tup [.agg [.pv (pI p.1.service), .pv (encEntries p.1.entries), .pv (encInts p.1.known)], .lf (.pv (pI p.2.1)), .lf (.pv (pI p.2.2))]
theorem finLQ {g : Ledger} {a e : Int} {q : Ledger × Int × Int} (h : Fin (g, a, e) q) : ∃ zs, Fa WkA [encLedger g, I a, I e] zs ∧ pack zs = some (ledQ q) := ⟨_, wk_refl _, by rw [← h.out]; rfl⟩
abbrev nilI : AV := .lf (.pv (.sc .nilIface))
abbrev nilT : TC := .lf (.pv (.sc .nilIface))
/-- A step of this saga may be called. -/
structure CallOk (w : Wd) (s : Saga) : Prop where
  taken : 0 ≤ w.taken
  outs : w.outs.length * 8 ≤ 140737488351232
  left : s.back = true → -9223372036854775808 ≤ s.left - 1 ∧ s.left - 1 ≤ 9223372036854775807
  at0 : 0 ≤ stepI s
  at1 : stepI s < s.steps.length
  gl : w.ledgers.length = 4
  sv : 1 ≤ (stepAt s).service ∧ (stepAt s).service ≤ 4
  ok : ∀ g ∈ w.ledgers, g.Ok
  srt : ∀ g ∈ w.ledgers, g.known.Pairwise (· < ·)
end Go.Rx
namespace Go.Proofs.YtfjllfjmggooeaaGreatDoor.Rx
open Go.Rx Go.Proofs Go.Proofs.YtfjllfjmggooeaaGreatDoor.RxH
/-- The blocks that a mover holds. -/
abbrev mvB (w : Wd) : List Blk := [.var (w.own 1), .arr 47 3 (w.ledgers.map Ledger.enc), .arr 44 18 (w.lives.map Live.enc), .arr 3 1 (intRows w.outs)]
theorem doQ_con (g : Ledger) (h : g.Ok) (hs : g.known.Pairwise (· < ·)) (x : Entry) (no : Bool) (out : Int) : Con P 173 [encLedger g, encEntry x, Bl no, I out] (ledQ (doL g x no out)) [] := by
  refine Con.stays (do_con g h hs x no out) (by show 2 ≤ 3; omega) ?_
  conv => whnf
  refine ⟨List.length_map .., ?_⟩
  conv => whnf
  refine ⟨List.length_map .., ?_⟩
  conv => whnf
  exact finLQ ⟨rfl⟩
theorem out_con (w : Wd) (ht : 0 ≤ w.taken) : ConG P 174 (mvB w) [.lf (.ptr 0 0)] (Go.Rx.I (outW w)) (mvB w) := by
  have hol : (intRows w.outs).length = w.outs.length := List.length_map ..
  refine ConG.of T_ok Tryz.func174 rfl (by kernel_rfl) (by kernel_rfl) (aw_of T_ok (by kernel_rfl) ?_)
  conv => whnf
  refine AW.draw T_ok rfl (seqPl 0 12) (by kernel_rfl) (by kernel_rfl) ?_
  conv => whnf
  refine ⟨hol, ?_⟩
  conv => whnf
  split <;> rename_i h1 <;> conv => whnf
  · have h1' : w.taken < (w.outs.length : Int) := of_decide_eq_true h1
    have hlt : w.taken.toNat < w.outs.length := by omega
    have hrow : (intRows w.outs)[w.taken.toNat]? = some [pI w.outs[w.taken.toNat]] := by unfold intRows; simp [hlt]
    have ho : outW w = w.outs[w.taken.toNat] := by rw [outW, if_pos h1', List.getElem?_eq_getElem hlt]; rfl
    refine AW.draw T_ok rfl (seqPl 0 13) (by kernel_rfl) (by kernel_rfl) ?_
    conv => whnf
    refine ⟨hol, ht, h1', ?_⟩
    conv => whnf
    refine ⟨rfl, hol, _, hrow, ?_⟩
    conv => whnf
    exact ⟨[], [0, 1, 2, 3], [Go.Rx.I w.outs[w.taken.toNat]], [Go.Rx.I w.outs[w.taken.toNat]], rfl, rfl, rfl, wk_refl _, by rw [ho]; rfl⟩
  · have h1' : ¬ w.taken < (w.outs.length : Int) := of_decide_eq_false h1
    have ho : outW w = 0 := by rw [outW, if_neg h1']
    exact ⟨[], [0, 1, 2, 3], [Go.Rx.I 0], [Go.Rx.I 0], rfl, rfl, rfl, wk_refl _, by rw [ho]; rfl⟩
end Go.Proofs.YtfjllfjmggooeaaGreatDoor.Rx

/- A step's call, walked. -/
set_option linter.unusedVariables false
set_option linter.unusedSimpArgs false
namespace Go.Rx
def pl10 : Pl := .one 0 (.one 1 (.one 3 (.two 2 (listPl [4, 5, 6, 7, 8]) 4 (.one 5 (.two 2 (listPl [6, 7, 8]) 6 (listPl [2, 7, 8]))))))
def pl12 : Pl := .one 3 (.fre 2 (.three 0 (.two 1 (listPl [4, 5, 6, 7, 8, 9, 10, 11, 12]) 4 (listPl [1, 5, 6, 7, 8, 9, 10, 11, 12])) 1 (.two 0 (listPl [4, 5, 6, 7, 8, 9, 10, 11, 12]) 4 (listPl [0, 5, 6, 7, 8, 9, 10, 11, 12])) 4 (listPl [0, 1, 5, 6, 7, 8, 9, 10, 11, 12])))
end Go.Rx
namespace Go.Proofs.YtfjllfjmggooeaaGreatDoor.Rx
open Go.Rx Go.Proofs Go.Proofs.YtfjllfjmggooeaaGreatDoor.RxH
set_option maxHeartbeats 1000000 in
theorem calledF_con (w : Wd) (id : Int) (key body : ByteArray) (steps : List Step) (done : Int) (out : Bool) (left status : Int) (h : CallOk w ⟨id, key, body, steps, done, out, false, left, status⟩) (he : (doneAt w ⟨id, key, body, steps, done, out, false, left, status⟩).2.2 = 0) :
    ConG P 140 (mvB w) [.lf (.ptr 0 0), encSaga ⟨id, key, body, steps, done, out, false, left, status⟩] (.tup [.lf (.pv (pI (doneAt w ⟨id, key, body, steps, done, out, false, left, status⟩).2.1)), nilT]) (mvB (calledW w ⟨id, key, body, steps, done, out, false, left, status⟩)) := by
  have h0 := h.at0
  have h1 := h.at1
  have hsv := h.sv
  have hgl := h.gl
  have hcw : calledW w ⟨id, key, body, steps, done, out, false, left, status⟩ = { w with ledgers := w.ledgers.set ((stepAt ⟨id, key, body, steps, done, out, false, left, status⟩).service - 1).toNat (doneAt w ⟨id, key, body, steps, done, out, false, left, status⟩).1, taken := IntKind.i64.wrap (w.taken + 1) } := rfl
  have hd : doneAt w ⟨id, key, body, steps, done, out, false, left, status⟩ = doL (ledgAt w ⟨id, key, body, steps, done, out, false, left, status⟩) ⟨callKey id done, false, (stepAt ⟨id, key, body, steps, done, out, false, left, status⟩).op, (stepAt ⟨id, key, body, steps, done, out, false, left, status⟩).who, (stepAt ⟨id, key, body, steps, done, out, false, left, status⟩).n⟩ false (outW w) := rfl
  have hla : ledgAt w ⟨id, key, body, steps, done, out, false, left, status⟩ = (w.ledgers[((stepAt ⟨id, key, body, steps, done, out, false, left, status⟩).service - 1).toNat]?).getD zL := rfl
  have hsa : stepAt ⟨id, key, body, steps, done, out, false, left, status⟩ = (steps[done.toNat]?).getD zStep := rfl
  rw [hcw]
  have hdl : done.toNat < steps.length := by
    have e : stepI ⟨id, key, body, steps, done, out, false, left, status⟩ = done := rfl
    rw [e] at h0 h1
    show done.toNat < steps.length
    have h1' : done < (steps.length : Int) := h1
    omega
  have h00 : 0 ≤ done := h0
  rw [List.getElem?_eq_getElem hdl] at hsa
  have hrow : (steps.map Step.enc)[done.toNat]? = some (steps[done.toNat]).enc := by simp [hdl]
  have hsa' : stepAt ⟨id, key, body, steps, done, out, false, left, status⟩ = steps[done.toNat] := hsa
  rw [hsa'] at hsv hd hla ⊢
  generalize steps[done.toNat] = st at hrow hsv hd hla
  have hgi : (st.service - 1).toNat < w.ledgers.length := by omega
  have hws : IntKind.i64.wrap (st.service - 1) = st.service - 1 := wrapI (by omega)
  have hgrow : (w.ledgers.map Ledger.enc)[(st.service - 1).toNat]? = some (w.ledgers[(st.service - 1).toNat]).enc := by rw [List.getElem?_map, List.getElem?_eq_getElem hgi]; rfl
  rw [List.getElem?_eq_getElem hgi] at hla
  have hla' : ledgAt w ⟨id, key, body, steps, done, out, false, left, status⟩ = w.ledgers[(st.service - 1).toNat] := hla
  rw [hla'] at hd
  have hok := h.ok _ (List.getElem_mem hgi)
  have hsrt := h.srt _ (List.getElem_mem hgi)
  generalize w.ledgers[(st.service - 1).toNat] = g at hgrow hd hok hsrt
  have cd := doQ_con g hok hsrt ⟨callKey id done, false, st.op, st.who, st.n⟩ false (outW w)
  rw [← hd] at cd
  have co := out_con w h.taken
  generalize doneAt w ⟨id, key, body, steps, done, out, false, left, status⟩ = d at he cd
  obtain ⟨g', a, e⟩ := d
  simp only at he
  subst he
  have hml : (w.ledgers.map Ledger.enc).length = w.ledgers.length := List.length_map ..
  refine ConG.of T_ok Tryz.func140 rfl (by kernel_rfl) (by kernel_rfl) (aw_ofC T_ok 2012 (by kernel_rfl) ?_)
  conv => whnf
  refine ⟨h00, _, hrow, ?_⟩
  conv => whnf
  refine callS (pair_con' id done) rfl ?_
  conv => whnf
  refine AW.draw T_ok rfl (seqPl 0 12) (by kernel_rfl) (by kernel_rfl) ?_
  conv => whnf
  refine ⟨hml, by rw [hws]; omega, by rw [hws]; omega, ?_⟩
  conv => whnf
  refine ⟨rfl, hml, _, by rw [hws]; exact hgrow, ?_⟩
  conv => whnf
  refine AW.cut (fun _ : Unit => True) (fun _ => [(0, .lf (.ptr 0 0)), (7, .lf (.ptr 5 0)), (11, .lf (.ptr 7 0)), (13, Go.Rx.I a), (14, Go.Rx.I 0)])
    (fun _ => mvB w ++ [.var [.pv (pI id), .pv (pS key), .pv (pS body), .pv (encSteps steps), .pv (pI done), .pv (pB out), .pv (pB false), .pv (pI left), .pv (pI status)],
      .var [.pv (pS st.nm), .pv (pI st.service), .pv (pS st.op), .pv (pS st.undo), .pv (pS st.who), .pv (pI st.n)],
      .var [.pv (pI (callKey id done)), .pv (pB false), .pv (pS st.op), .pv (pS st.who), .pv (pI st.n)], ledgerV g']) [] ?_ ?_
  · refine aw_of T_ok (by kernel_rfl) ?_
    conv => whnf
    refine AW.draw T_ok rfl pl12 (by kernel_rfl) (by kernel_rfl) ?_
    conv => whnf
    refine ⟨?_, ?_, ?_⟩ <;> conv => whnf
    · refine ⟨?_, ?_⟩ <;> conv => whnf
      · refine ⟨[0, 1, 2, 3], _, _, _, _, _, nodupB_ok rfl, rfl, rfl, wk_refl _, co, ?_⟩
        conv => whnf
        refine callU cd (fun _ => rfl) ?_
        conv => whnf
        exact ⟨(), trivial, ⟨rfl, rfl, rfl, rfl, rfl, trivial⟩, ⟨[], rfl⟩, rfl, rfl⟩
      · refine ⟨[0, 1, 2, 3], _, _, _, _, _, nodupB_ok rfl, rfl, rfl, wk_refl _, co, ?_⟩
        conv => whnf
        refine callU cd (fun _ => rfl) ?_
        conv => whnf
        exact ⟨(), trivial, ⟨rfl, rfl, rfl, rfl, rfl, trivial⟩, ⟨[], rfl⟩, rfl, rfl⟩
    · refine ⟨?_, ?_⟩ <;> conv => whnf
      · refine ⟨[0, 1, 2, 3], _, _, _, _, _, nodupB_ok rfl, rfl, rfl, wk_refl _, co, ?_⟩
        conv => whnf
        refine callU cd (fun _ => rfl) ?_
        conv => whnf
        exact ⟨(), trivial, ⟨rfl, rfl, rfl, rfl, rfl, trivial⟩, ⟨[], rfl⟩, rfl, rfl⟩
      · refine ⟨[0, 1, 2, 3], _, _, _, _, _, nodupB_ok rfl, rfl, rfl, wk_refl _, co, ?_⟩
        conv => whnf
        refine callU cd (fun _ => rfl) ?_
        conv => whnf
        exact ⟨(), trivial, ⟨rfl, rfl, rfl, rfl, rfl, trivial⟩, ⟨[], rfl⟩, rfl, rfl⟩
    · refine ⟨[0, 1, 2, 3], _, _, _, _, _, nodupB_ok rfl, rfl, rfl, wk_refl _, co, ?_⟩
      conv => whnf
      refine callU cd (fun _ => rfl) ?_
      conv => whnf
      exact ⟨(), trivial, ⟨rfl, rfl, rfl, rfl, rfl, trivial⟩, ⟨[], rfl⟩, rfl, rfl⟩
  rintro _ _
  refine aw_of T_ok (by kernel_rfl) ?_
  conv => whnf
  refine AW.draw T_ok rfl (seqPl 0 11) (by kernel_rfl) (by kernel_rfl) ?_
  conv => whnf
  refine ⟨hml, by rw [hws]; omega, by rw [hws]; omega, ?_⟩
  conv => whnf
  refine ⟨rfl, hml, _, by rw [hws]; exact hgrow, ?_⟩
  conv => whnf
  refine ⟨by decide, ?_⟩
  conv => whnf
  refine ⟨[], [0, 1, 2, 3], [Go.Rx.I a, nilI], [Go.Rx.I a, nilI], rfl, ?zend, rfl, wk_refl _, rfl⟩
  have e1 : (w.ledgers.set (st.service - 1).toNat g').map Ledger.enc = (w.ledgers.map Ledger.enc).set (IntKind.i64.wrap (st.service - 1)).toNat g'.enc := by rw [hws]; exact List.map_set
  have e2 : (w.ledgers.set (st.service - 1).toNat g').length = w.ledgers.length := List.length_set
  show _ = some [Blk.var [.pv (pI w.clock), .pv (pS w.file.safe), .pv (pS w.file.tail), .pv (pI w.file.cap), .own 1 (w.ledgers.set (st.service - 1).toNat g').length, .own 2 w.lives.length, .own 3 w.outs.length, .pv (pI (IntKind.i64.wrap (w.taken + 1)))],
    .arr 47 3 ((w.ledgers.set (st.service - 1).toNat g').map Ledger.enc), .arr 44 18 (w.lives.map Live.enc), .arr 3 1 (intRows w.outs)]
  rw [e1, e2]
  rfl
end Go.Proofs.YtfjllfjmggooeaaGreatDoor.Rx

/- A step's call back, walked. -/
set_option linter.unusedVariables false
set_option linter.unusedSimpArgs false
namespace Go.Proofs.YtfjllfjmggooeaaGreatDoor.Rx
open Go.Rx Go.Proofs Go.Proofs.YtfjllfjmggooeaaGreatDoor.RxH
set_option maxHeartbeats 1000000 in
theorem calledT_con (w : Wd) (id : Int) (key body : ByteArray) (steps : List Step) (done : Int) (out : Bool) (left status : Int) (h : CallOk w ⟨id, key, body, steps, done, out, true, left, status⟩) (he : (doneAt w ⟨id, key, body, steps, done, out, true, left, status⟩).2.2 = 0) :
    ConG P 140 (mvB w) [.lf (.ptr 0 0), encSaga ⟨id, key, body, steps, done, out, true, left, status⟩] (.tup [.lf (.pv (pI (doneAt w ⟨id, key, body, steps, done, out, true, left, status⟩).2.1)), nilT]) (mvB (calledW w ⟨id, key, body, steps, done, out, true, left, status⟩)) := by
  have h0 := h.at0
  have h1 := h.at1
  have hsv := h.sv
  have hgl := h.gl
  have hcw : calledW w ⟨id, key, body, steps, done, out, true, left, status⟩ = { w with ledgers := w.ledgers.set ((stepAt ⟨id, key, body, steps, done, out, true, left, status⟩).service - 1).toNat (doneAt w ⟨id, key, body, steps, done, out, true, left, status⟩).1, taken := IntKind.i64.wrap (w.taken + 1) } := rfl
  have hd : doneAt w ⟨id, key, body, steps, done, out, true, left, status⟩ = doL (ledgAt w ⟨id, key, body, steps, done, out, true, left, status⟩) ⟨undoKey id (IntKind.i64.wrap (left - 1)), true, (stepAt ⟨id, key, body, steps, done, out, true, left, status⟩).undo, (stepAt ⟨id, key, body, steps, done, out, true, left, status⟩).who, (stepAt ⟨id, key, body, steps, done, out, true, left, status⟩).n⟩ (!(doneB (ledgAt w ⟨id, key, body, steps, done, out, true, left, status⟩).entries (callKey id (IntKind.i64.wrap (left - 1))))) (outW w) := rfl
  have hla : ledgAt w ⟨id, key, body, steps, done, out, true, left, status⟩ = (w.ledgers[((stepAt ⟨id, key, body, steps, done, out, true, left, status⟩).service - 1).toNat]?).getD zL := rfl
  have hsa : stepAt ⟨id, key, body, steps, done, out, true, left, status⟩ = (steps[(IntKind.i64.wrap (left - 1)).toNat]?).getD zStep := rfl
  rw [hcw]
  have e : stepI ⟨id, key, body, steps, done, out, true, left, status⟩ = IntKind.i64.wrap (left - 1) := rfl
  rw [e] at h0 h1
  have h1' : IntKind.i64.wrap (left - 1) < (steps.length : Int) := h1
  have h00 : 0 ≤ IntKind.i64.wrap (left - 1) := h0
  obtain ⟨ix, hix⟩ : ∃ ix, ix = IntKind.i64.wrap (left - 1) := ⟨_, rfl⟩
  rw [← hix] at hd hsa h00 h1'
  have hdl : ix.toNat < steps.length := by omega
  rw [List.getElem?_eq_getElem hdl] at hsa
  have hrow : (steps.map Step.enc)[ix.toNat]? = some (steps[ix.toNat]).enc := by simp [hdl]
  have hsa' : stepAt ⟨id, key, body, steps, done, out, true, left, status⟩ = steps[ix.toNat] := hsa
  rw [hsa'] at hsv hd hla ⊢
  generalize steps[ix.toNat] = st at hrow hsv hd hla
  have hgi : (st.service - 1).toNat < w.ledgers.length := by omega
  have hws : IntKind.i64.wrap (st.service - 1) = st.service - 1 := wrapI (by omega)
  have hgrow : (w.ledgers.map Ledger.enc)[(st.service - 1).toNat]? = some (w.ledgers[(st.service - 1).toNat]).enc := by rw [List.getElem?_map, List.getElem?_eq_getElem hgi]; rfl
  rw [List.getElem?_eq_getElem hgi] at hla
  have hla' : ledgAt w ⟨id, key, body, steps, done, out, true, left, status⟩ = w.ledgers[(st.service - 1).toNat] := hla
  rw [hla'] at hd
  have hok := h.ok _ (List.getElem_mem hgi)
  have hsrt := h.srt _ (List.getElem_mem hgi)
  generalize w.ledgers[(st.service - 1).toNat] = g at hgrow hd hok hsrt
  have cd := doQ_con g hok hsrt ⟨undoKey id ix, true, st.undo, st.who, st.n⟩ (!(doneB g.entries (callKey id ix))) (outW w)
  have cn := done_con g hok (callKey id ix)
  rw [← hd] at cd
  have co := out_con w h.taken
  generalize doneAt w ⟨id, key, body, steps, done, out, true, left, status⟩ = d at he cd
  obtain ⟨g', a, e⟩ := d
  simp only at he
  subst he
  have hml : (w.ledgers.map Ledger.enc).length = w.ledgers.length := List.length_map ..
  refine ConG.of T_ok Tryz.func140 rfl (by kernel_rfl) (by kernel_rfl) (aw_ofC T_ok 1009 (by kernel_rfl) ?_)
  conv => whnf
  refine ⟨by rw [← hix]; exact h00, _, by rw [← hix]; exact hrow, ?_⟩
  conv => whnf
  refine callS (pair_con' id (IntKind.i64.wrap (left - 1))) rfl ?_
  conv => whnf
  refine AW.draw T_ok rfl (seqPl 0 12) (by kernel_rfl) (by kernel_rfl) ?_
  conv => whnf
  refine ⟨hml, by rw [hws]; omega, by rw [hws]; omega, ?_⟩
  conv => whnf
  refine ⟨rfl, hml, _, by rw [hws]; exact hgrow, ?_⟩
  conv => whnf
  refine AW.cut (fun _ : Unit => True) (fun _ => [(0, .lf (.ptr 0 0)), (7, .lf (.ptr 5 0)), (10, .lf (.ptr 6 0)), (11, .lf (.ptr 7 0)), (12, Bl (!(doneB g.entries (callKey id ix))))])
    (fun _ => mvB w ++ [.var [.pv (pI id), .pv (pS key), .pv (pS body), .pv (encSteps steps), .pv (pI done), .pv (pB out), .pv (pB true), .pv (pI left), .pv (pI status)],
      .var [.pv (pS st.nm), .pv (pI st.service), .pv (pS st.op), .pv (pS st.undo), .pv (pS st.who), .pv (pI st.n)],
      .var [.pv (pI (undoKey id ix)), .pv (pB true), .pv (pS st.undo), .pv (pS st.who), .pv (pI st.n)], ledgerV g]) [] ?_ ?_
  · refine aw_of T_ok (by kernel_rfl) ?_
    conv => whnf
    refine AW.draw T_ok rfl pl10 (by kernel_rfl) (by kernel_rfl) ?_
    conv => whnf
    rw [← hix]
    refine ⟨?_, ?_⟩ <;> conv => whnf
    · refine callS cn rfl ?_
      conv => whnf
      exact ⟨(), trivial, ⟨rfl, rfl, rfl, rfl, rfl, trivial⟩, ⟨[], rfl⟩, rfl, rfl⟩
    · refine ⟨?_, ?_⟩ <;> conv => whnf
      · refine callS cn rfl ?_
        conv => whnf
        exact ⟨(), trivial, ⟨rfl, rfl, rfl, rfl, rfl, trivial⟩, ⟨[], rfl⟩, rfl, rfl⟩
      · refine callS cn rfl ?_
        conv => whnf
        exact ⟨(), trivial, ⟨rfl, rfl, rfl, rfl, rfl, trivial⟩, ⟨[], rfl⟩, rfl, rfl⟩
  rintro _ _
  refine aw_ofC T_ok 2012 (by kernel_rfl) ?_
  conv => whnf
  refine AW.cut (fun _ : Unit => True) (fun _ => [(0, .lf (.ptr 0 0)), (7, .lf (.ptr 5 0)), (11, .lf (.ptr 7 0)), (13, Go.Rx.I a), (14, Go.Rx.I 0)])
    (fun _ => mvB w ++ [.var [.pv (pI id), .pv (pS key), .pv (pS body), .pv (encSteps steps), .pv (pI done), .pv (pB out), .pv (pB true), .pv (pI left), .pv (pI status)],
      .var [.pv (pS st.nm), .pv (pI st.service), .pv (pS st.op), .pv (pS st.undo), .pv (pS st.who), .pv (pI st.n)],
      .var [.pv (pI (undoKey id ix)), .pv (pB true), .pv (pS st.undo), .pv (pS st.who), .pv (pI st.n)], ledgerV g']) [] ?_ ?_
  · refine aw_of T_ok (by kernel_rfl) ?_
    conv => whnf
    refine AW.draw T_ok rfl pl12 (by kernel_rfl) (by kernel_rfl) ?_
    conv => whnf
    refine ⟨?_, ?_, ?_⟩ <;> conv => whnf
    · refine ⟨?_, ?_⟩ <;> conv => whnf
      · refine ⟨[0, 1, 2, 3], _, _, _, _, _, nodupB_ok rfl, rfl, rfl, wk_refl _, co, ?_⟩
        conv => whnf
        refine callU cd (fun _ => rfl) ?_
        conv => whnf
        exact ⟨(), trivial, ⟨rfl, rfl, rfl, rfl, rfl, trivial⟩, ⟨[], rfl⟩, rfl, rfl⟩
      · refine ⟨[0, 1, 2, 3], _, _, _, _, _, nodupB_ok rfl, rfl, rfl, wk_refl _, co, ?_⟩
        conv => whnf
        refine callU cd (fun _ => rfl) ?_
        conv => whnf
        exact ⟨(), trivial, ⟨rfl, rfl, rfl, rfl, rfl, trivial⟩, ⟨[], rfl⟩, rfl, rfl⟩
    · refine ⟨?_, ?_⟩ <;> conv => whnf
      · refine ⟨[0, 1, 2, 3], _, _, _, _, _, nodupB_ok rfl, rfl, rfl, wk_refl _, co, ?_⟩
        conv => whnf
        refine callU cd (fun _ => rfl) ?_
        conv => whnf
        exact ⟨(), trivial, ⟨rfl, rfl, rfl, rfl, rfl, trivial⟩, ⟨[], rfl⟩, rfl, rfl⟩
      · refine ⟨[0, 1, 2, 3], _, _, _, _, _, nodupB_ok rfl, rfl, rfl, wk_refl _, co, ?_⟩
        conv => whnf
        refine callU cd (fun _ => rfl) ?_
        conv => whnf
        exact ⟨(), trivial, ⟨rfl, rfl, rfl, rfl, rfl, trivial⟩, ⟨[], rfl⟩, rfl, rfl⟩
    · refine ⟨[0, 1, 2, 3], _, _, _, _, _, nodupB_ok rfl, rfl, rfl, wk_refl _, co, ?_⟩
      conv => whnf
      refine callU cd (fun _ => rfl) ?_
      conv => whnf
      exact ⟨(), trivial, ⟨rfl, rfl, rfl, rfl, rfl, trivial⟩, ⟨[], rfl⟩, rfl, rfl⟩
  rintro _ _
  refine aw_of T_ok (by kernel_rfl) ?_
  conv => whnf
  refine AW.draw T_ok rfl (seqPl 0 11) (by kernel_rfl) (by kernel_rfl) ?_
  conv => whnf
  refine ⟨hml, by rw [hws]; omega, by rw [hws]; omega, ?_⟩
  conv => whnf
  refine ⟨rfl, hml, _, by rw [hws]; exact hgrow, ?_⟩
  conv => whnf
  refine ⟨by decide, ?_⟩
  conv => whnf
  refine ⟨[], [0, 1, 2, 3], [Go.Rx.I a, nilI], [Go.Rx.I a, nilI], rfl, ?zend, rfl, wk_refl _, rfl⟩
  have e1 : (w.ledgers.set (st.service - 1).toNat g').map Ledger.enc = (w.ledgers.map Ledger.enc).set (IntKind.i64.wrap (st.service - 1)).toNat g'.enc := by rw [hws]; exact List.map_set
  have e2 : (w.ledgers.set (st.service - 1).toNat g').length = w.ledgers.length := List.length_set
  show _ = some [Blk.var [.pv (pI w.clock), .pv (pS w.file.safe), .pv (pS w.file.tail), .pv (pI w.file.cap), .own 1 (w.ledgers.set (st.service - 1).toNat g').length, .own 2 w.lives.length, .own 3 w.outs.length, .pv (pI (IntKind.i64.wrap (w.taken + 1)))],
    .arr 47 3 ((w.ledgers.set (st.service - 1).toNat g').map Ledger.enc), .arr 44 18 (w.lives.map Live.enc), .arr 3 1 (intRows w.outs)]
  rw [e1, e2]
  rfl
end Go.Proofs.YtfjllfjmggooeaaGreatDoor.Rx

/- A step: what an answer leads to. -/
set_option linter.unusedVariables false
set_option linter.unusedSimpArgs false
namespace Go.Rx
abbrev recT (r : Rec) : TC := .agg [.pv (pI r.kind), .pv (pI r.id), .pv (pI r.n), .pv (pS r.key), .pv (pS r.body), .pv (encSteps r.steps)]
abbrev recN (k id n : Int) : AV := .agg [.pv (pI k), .pv (pI id), .pv (pI n), .pv (pS ⟨#[]⟩), .pv (pS ⟨#[]⟩), .pv (.sc (.slice none 0 0))]
theorem wkRec (k id n : Int) (b : Bool) : Fa WkA [recN k id n, Bl b] [encRec ⟨k, id, n, ⟨#[]⟩, ⟨#[]⟩, []⟩, Bl b] :=
  ⟨.inr (.inr ⟨_, _, rfl, rfl, .inl rfl, .inl rfl, .inl rfl, .inl rfl, .inl rfl, wkN 6, trivial⟩), .inl rfl, trivial⟩
end Go.Rx
namespace Go.Proofs.YtfjllfjmggooeaaGreatDoor.Rx
open Go.Rx Go.Proofs Go.Proofs.YtfjllfjmggooeaaGreatDoor.RxH
theorem called_con (w : Wd) (s : Saga) (h : CallOk w s) (he : (doneAt w s).2.2 = 0) :
    ConG P 140 (mvB w) [.lf (.ptr 0 0), encSaga s] (.tup [.lf (.pv (pI (doneAt w s).2.1)), nilT]) (mvB (calledW w s)) := by
  obtain ⟨id, key, body, steps, done, out, back, left, status⟩ := s
  cases back with
  | false => exact calledF_con w id key body steps done out left status h he
  | true => exact calledT_con w id key body steps done out left status h he
/-- The world with a live turned. -/
abbrev setLive (w : Wd) (i : Nat) (v : Live) : Wd := { w with lives := w.lives.set i v }
theorem answered_con (w : Wd) (i : Nat) (v : Live) (a : Int) (hi : w.lives[i]? = some v) (ht : -1 ≤ v.tries ∧ v.tries ≤ 4611686018427387903) :
    ConG P 141 (mvB w) [.lf (.ptr 0 0), .lf (.ept 2 w.lives.length i 18 0), Go.Rx.I a] (.tup [recT (answeredL w.clock v a).2.1, .lf (.pv (pB (answeredL w.clock v a).2.2))]) (mvB (setLive w i (answeredL w.clock v a).1)) := by
  have hml : (w.lives.map Live.enc).length = w.lives.length := List.length_map ..
  have hrow : (w.lives.map Live.enc)[i]? = some v.enc := by rw [List.getElem?_map, hi]; rfl
  have hil : i < w.lives.length := (List.getElem?_eq_some_iff.1 hi).1
  have hset : ∀ r, ((w.lives.map Live.enc).set i r)[i]? = some r := fun r => List.getElem?_set_self (by rw [hml]; exact hil)
  have hsl : ∀ r, ((w.lives.map Live.enc).set i r).length = w.lives.length := fun r => by rw [List.length_set, hml]
  have hm2 : ∀ v' : Live, (w.lives.set i v').map Live.enc = (w.lives.map Live.enc).set i v'.enc := fun v' => List.map_set
  have hl2 : ∀ v' : Live, (w.lives.set i v').length = w.lives.length := fun v' => List.length_set
  have hB : ∀ v' : Live, [Blk.var [.pv (pI w.clock), .pv (pS w.file.safe), .pv (pS w.file.tail), .pv (pI w.file.cap), .own 1 w.ledgers.length, .own 2 w.lives.length, .own 3 w.outs.length, .pv (pI w.taken)],
      .arr 47 3 (w.ledgers.map Ledger.enc), .arr 44 18 ((w.lives.map Live.enc).set i v'.enc), .arr 3 1 (intRows w.outs)] = mvB (setLive w i v') := fun v' => by
    show _ = [Blk.var [.pv (pI w.clock), .pv (pS w.file.safe), .pv (pS w.file.tail), .pv (pI w.file.cap), .own 1 w.ledgers.length, .own 2 (w.lives.set i v').length, .own 3 w.outs.length, .pv (pI w.taken)],
      .arr 47 3 (w.ledgers.map Ledger.enc), .arr 44 18 ((w.lives.set i v').map Live.enc), .arr 3 1 (intRows w.outs)]
    rw [hm2, hl2]
  have hsame : (w.lives.map Live.enc).set i v.enc = w.lives.map Live.enc := by
    rw [← hm2]
    have : w.lives.set i v = w.lives := by
      obtain ⟨h1, h2⟩ := List.getElem?_eq_some_iff.1 hi
      rw [← h2]
      exact List.set_getElem_self h1
    rw [this]
  obtain ⟨q, hq⟩ : ∃ q, q = answeredL w.clock v a := ⟨_, rfl⟩
  rw [← hq]
  obtain ⟨⟨id, key, body, steps, done, out, back, left, status⟩, tries, due, write, put⟩ := v
  refine ConG.of T_ok Tryz.func141 rfl (by kernel_rfl) (by kernel_rfl) (aw_of T_ok (by kernel_rfl) ?_)
  conv => whnf
  refine ⟨hml, hml, rfl, hml, _, hrow, ?_⟩
  conv => whnf
  split <;> rename_i h1 <;> conv => whnf
  · have ha : a = 2 := by simpa using h1
    refine ⟨hml, hml, rfl, hml, _, hrow, ?_⟩
    conv => whnf
    refine ⟨hml, hml, rfl, hml, _, hrow, by decide, ?_⟩
    conv => whnf
    have hwt : IntKind.i64.wrap (tries + 1) = tries + 1 := wrapI (by have := ht; simp only at this; omega)
    have ct := long_con (IntKind.i64.wrap (tries + 1)) (by rw [hwt]; have := ht.1; simp only at this; omega) (by rw [hwt]; have := ht.2; simp only at this; omega)
    cases back with
    | true =>
      have hq' : q = (⟨⟨id, key, body, steps, done, out, true, left, status⟩, IntKind.i64.wrap (tries + 1), IntKind.i64.wrap (w.clock + longI (IntKind.i64.wrap (tries + 1))), write, put⟩, zRec, false) := by
        rw [hq, answeredL]; simp only; rw [if_pos ha]; rfl
      subst hq'
      conv => whnf
      refine AW.draw T_ok rfl (seqPl 0 15) (by kernel_rfl) (by kernel_rfl) ?_
      conv => whnf
      refine ⟨hsl _, hsl _, rfl, hsl _, _, hset _, ?_⟩
      conv => whnf
      refine callS ct rfl ?_
      conv => whnf
      refine ⟨hsl _, hsl _, rfl, hsl _, _, hset _, by decide, ?_⟩
      conv => whnf
      refine ⟨[], [0, 1, 2, 3], [encRec zRec, Bl false], [recN 0 0 0, Bl false], rfl, ?za, rfl, wkRec 0 0 0 false, rfl⟩
      rw [← hB]
      show some [_, _, Blk.arr _ 18 ((_ : List (List PV)).set i _ |>.set i _), _] = _
      rw [List.set_set]
      rfl
    | false =>
      conv => whnf
      refine ⟨hsl _, hsl _, rfl, hsl _, _, hset _, ?_⟩
      conv => whnf
      split <;> rename_i h2 <;> conv => whnf
      · have h2' : decide (IntKind.i64.wrap (tries + 1) < 4) = true := h2
        have hq' : q = (⟨⟨id, key, body, steps, done, out, false, left, status⟩, IntKind.i64.wrap (tries + 1), IntKind.i64.wrap (w.clock + longI (IntKind.i64.wrap (tries + 1))), write, put⟩, zRec, false) := by
          rw [hq, answeredL]; simp only; rw [if_pos ha, if_pos (by rw [h2']; rfl)]
        subst hq'
        conv => whnf
        refine AW.draw T_ok rfl (seqPl 0 15) (by kernel_rfl) (by kernel_rfl) ?_
        conv => whnf
        refine ⟨hsl _, hsl _, rfl, hsl _, _, hset _, ?_⟩
        conv => whnf
        refine callS ct rfl ?_
        conv => whnf
        refine ⟨hsl _, hsl _, rfl, hsl _, _, hset _, by decide, ?_⟩
        conv => whnf
        refine ⟨[], [0, 1, 2, 3], [encRec zRec, Bl false], [recN 0 0 0, Bl false], rfl, ?zb, rfl, wkRec 0 0 0 false, rfl⟩
        rw [← hB]
        show some [_, _, Blk.arr _ 18 ((_ : List (List PV)).set i _ |>.set i _), _] = _
        rw [List.set_set]
        rfl
      · have h2' : decide (IntKind.i64.wrap (tries + 1) < 4) = false := h2
        have hq' : q = (⟨⟨id, key, body, steps, done, out, false, left, status⟩, IntKind.i64.wrap (tries + 1), due, write, put⟩, ⟨4, id, 0, ⟨#[]⟩, ⟨#[]⟩, []⟩, true) := by
          rw [hq, answeredL]; simp only; rw [if_pos ha, if_neg (by rw [h2']; decide)]; rfl
        subst hq'
        conv => whnf
        refine ⟨[], [0, 1, 2, 3], [encRec ⟨4, id, 0, ⟨#[]⟩, ⟨#[]⟩, []⟩, Bl true], [recN 4 id 0, Bl true], rfl, ?zc, rfl, wkRec _ _ _ _, rfl⟩
        rw [← hB]
        rfl
  · have ha : ¬ a = 2 := by simpa using h1
    split <;> rename_i h3 <;> conv => whnf
    · have hb : a = 1 := by simpa using h3
      cases back with
      | true =>
        have hq' : q = (⟨⟨id, key, body, steps, done, out, true, left, status⟩, tries, due, write, put⟩, ⟨6, id, 3, ⟨#[]⟩, ⟨#[]⟩, []⟩, true) := by
          rw [hq, answeredL]; simp only; rw [if_neg ha, if_neg (fun h => by cases h.2), if_pos hb]; rfl
        subst hq'
        conv => whnf
        split <;> rename_i h4 <;> conv => whnf
        · refine ⟨[], [0, 1, 2, 3], [encRec ⟨6, id, 3, ⟨#[]⟩, ⟨#[]⟩, []⟩, Bl true], [recN 6 id 3, Bl true], rfl, ?zd, rfl, wkRec _ _ _ _, rfl⟩
          rw [← hB, hsame]
          rfl
        · have h4' : (a == 1) = false := h4
          rw [hb] at h4'
          cases h4'
      | false =>
        have hq' : q = (⟨⟨id, key, body, steps, done, out, false, left, status⟩, tries, due, write, put⟩, ⟨4, id, 0, ⟨#[]⟩, ⟨#[]⟩, []⟩, true) := by
          rw [hq, answeredL]; simp only; rw [if_neg ha, if_pos (by first | exact ⟨hb, rfl⟩ | exact ⟨hb, trivial⟩)]; rfl
        subst hq'
        conv => whnf
        refine ⟨[], [0, 1, 2, 3], [encRec ⟨4, id, 0, ⟨#[]⟩, ⟨#[]⟩, []⟩, Bl true], [recN 4 id 0, Bl true], rfl, ?ze, rfl, wkRec _ _ _ _, rfl⟩
        rw [← hB, hsame]
        rfl
    · have hb : ¬ a = 1 := by simpa using h3
      split <;> rename_i h5 <;> conv => whnf
      · have h5' : (a == 1) = true := h5
        exact absurd (by simpa using h5') hb
      cases back with
      | true =>
        have hq' : q = (⟨⟨id, key, body, steps, done, out, true, left, status⟩, tries, due, write, put⟩, ⟨5, id, IntKind.i64.wrap (left - 1), ⟨#[]⟩, ⟨#[]⟩, []⟩, true) := by
          rw [hq, answeredL]; simp only; rw [if_neg ha, if_neg (fun h => by cases h.2), if_neg hb]; rfl
        subst hq'
        conv => whnf
        refine ⟨[], [0, 1, 2, 3], [encRec ⟨5, id, IntKind.i64.wrap (left - 1), ⟨#[]⟩, ⟨#[]⟩, []⟩, Bl true], [recN 5 id (IntKind.i64.wrap (left - 1)), Bl true], rfl, ?zf, rfl, wkRec _ _ _ _, rfl⟩
        rw [← hB, hsame]
        rfl
      | false =>
        have hq' : q = (⟨⟨id, key, body, steps, done, out, false, left, status⟩, tries, due, write, put⟩, ⟨3, id, done, ⟨#[]⟩, ⟨#[]⟩, []⟩, true) := by
          rw [hq, answeredL]; simp only; rw [if_neg ha, if_neg (fun h => hb h.1), if_neg hb]; rfl
        subst hq'
        conv => whnf
        refine ⟨[], [0, 1, 2, 3], [encRec ⟨3, id, done, ⟨#[]⟩, ⟨#[]⟩, []⟩, Bl true], [recN 3 id done, Bl true], rfl, ?zg, rfl, wkRec _ _ _ _, rfl⟩
        rw [← hB, hsame]
        rfl
end Go.Proofs.YtfjllfjmggooeaaGreatDoor.Rx

/- Rows weakened: a nil slice stands for no rows. -/
set_option linter.unusedVariables false
set_option linter.unusedSimpArgs false
namespace Go.Rx
open Go.RowKit
theorem wkP_refl (p : PV) : WkP p p := fun _ _ _ h => h
theorem wkP_nil (sz : Nat) : WkP (.sc (.slice none 0 0)) (.sl sz []) := fun S w v h => by
  cases h
  exact RepP.nil sz
theorem fa_reflX {α : Type} {R : α → α → Prop} (h : ∀ a, R a a) : ∀ l : List α, Fa R l l
  | [] => trivial
  | a :: l => ⟨h a, fa_reflX h l⟩
theorem fa_setX {α : Type} {R : α → α → Prop} (h : ∀ a, R a a) {a b : α} (hab : R a b) : ∀ (l : List α) (i : Nat), Fa R (l.set i a) (l.set i b)
  | [], _ => trivial
  | _ :: l, 0 => ⟨hab, fa_reflX h l⟩
  | x :: l, i + 1 => ⟨h x, fa_setX h hab l i⟩
theorem fa_get' {α : Type} {R : α → α → Prop} : ∀ {l m : List α}, Fa R l m → ∀ {i : Nat} {b : α}, m[i]? = some b → ∃ a, l[i]? = some a ∧ R a b
  | [], [], _, i, b, h => by simp at h
  | x :: l, y :: m, h, 0, b, e => ⟨x, rfl, by simp at e; exact e ▸ h.1⟩
  | x :: l, y :: m, h, i + 1, b, e => by simpa using fa_get' h.2 (i := i) (by simpa using e)
  | [], _ :: _, h, _, _, _ => h.elim
  | _ :: _, [], h, _, _, _ => h.elim
section
variable {P : Program} {C : Ctx} {G : Gh} {bk : List Blk} {w : World}
theorem Mem.wkArr (h : Mem C G bk w) {b e sz : Nat} {rows rows' : List (List PV)} (hb : bk[b]? = some (.arr e sz rows)) (hr : Fa (Fa WkP) rows rows') :
    Trn G bk w G (bk.set b (.arr e sz rows')) w ∧ Mem C G (bk.set b (.arr e sz rows')) w := by
  have hbl : b < bk.length := (List.getElem?_eq_some_iff.1 hb).1
  have hl : rows.length = rows'.length := hr.length
  have gb : (bk.set b (.arr e sz rows'))[b]? = some (.arr e sz rows') := List.getElem?_set_self hbl
  have g0 : ∀ i, i ≠ b → (bk.set b (.arr e sz rows'))[i]? = bk[i]? := fun i hn => List.getElem?_set_ne (Ne.symm hn)
  have hrb : rowsOf bk b = some (sz, rows) := by unfold rowsOf; rw [hb]
  have hro : ∀ i, i ≠ b → rowsOf (bk.set b (.arr e sz rows')) i = rowsOf bk i := fun i hn => by unfold rowsOf; rw [g0 i hn]
  have hrn : rowsOf (bk.set b (.arr e sz rows')) b = some (sz, rows') := by unfold rowsOf; rw [gb]
  have hal : ∀ i, Alive (bk.set b (.arr e sz rows')) i → Alive bk i := fun i ha => by
    by_cases hn : i = b
    · subst hn; unfold Alive; rw [hb]; trivial
    · unfold Alive at ha ⊢; rw [g0 i hn] at ha; exact ha
  have hlen : (bk.set b (.arr e sz rows')).length = bk.length := by simp
  have t : Trn G bk w G (bk.set b (.arr e sz rows')) w := by
    refine ⟨fun _ _ h => h, fun _ _ _ => rfl, by rw [hlen]; exact Nat.le_refl _, fun i hi hn => ?_, fun i s r hn => ?_⟩
    · have : i ≠ b := fun e0 => by subst e0; rw [hrb] at hn; cases hn
      exact ⟨by rw [hro i this]; exact hn, rfl⟩
    · by_cases e0 : i = b
      · subst e0
        rw [hrb] at hn
        cases hn
        exact ⟨rows', hrn, by omega, fun _ => ⟨rfl, rfl⟩⟩
      · exact ⟨r, by rw [hro i e0]; exact hn, Nat.le_refl _, fun _ => ⟨rfl, rfl⟩⟩
  refine ⟨t, ⟨fun i B hB => ?_, fun i j g hi hj => h.inj i j g (by rw [hlen] at hi; exact hi) (by rw [hlen] at hj; exact hj), fun g o i hs ha => h.sdis g o i hs (hal i ha), h.slt, fun i g hi => h.mlt i g (by rw [hlen] at hi; exact hi), fun i g hi => h.new i g (by rw [hlen] at hi; exact hi), h.s0, h.snew, h.os, h.tape, h.output, h.size, h.block, by rw [hlen]; exact h.mle, h.t0.trans t⟩⟩
  by_cases hn : i = b
  · subst hn
    rw [gb] at hB
    cases hB
    rcases h.blk i _ hb with ⟨h1, h2⟩ | ⟨g, cur, h1, h2, h3, h4, h5, h6⟩
    · subst h2
      exact .inl ⟨h1, List.eq_nil_of_length_eq_zero hl.symm⟩
    · refine .inr ⟨g, cur, h1, h2, h3, h4, by omega, fun j r' hj => ?_⟩
      obtain ⟨r, hj', hrr⟩ := fa_get' hr hj
      obtain ⟨k1, k2⟩ := h6 j r hj'
      refine ⟨by rw [← hrr.length]; exact k1, fun c p' hc => ?_⟩
      obtain ⟨p, hc', hp⟩ := fa_get' hrr hc
      obtain ⟨u, hu, hrep⟩ := k2 c p hc'
      exact ⟨u, hu, hp _ _ _ hrep⟩
  · rw [g0 i hn] at hB
    exact RepB.step t rfl rfl (fun _ _ => rfl) (h.blk i B hB)
theorem ConG.wk {f : FuncId} {B0 B1 : List Blk} {args : List AV} {r : AV} (hc : ConG P f B0 args r B1) {b e sz : Nat} {rows rows' : List (List PV)} (hb : B1[b]? = some (.arr e sz rows)) (hr : Fa (Fa WkP) rows rows') :
    ConG P f B0 args r (B1.set b (.arr e sz rows')) := by
  refine ⟨hc.1, fun w G0 us hm ha => (hc.2 w G0 us hm ha).mono ?_⟩
  rintro e' w' ⟨u, G', rfl, h1, h2⟩
  obtain ⟨t, m⟩ := h2.wkArr hb hr
  exact ⟨u, G', rfl, t.repA h1, m⟩
end
end Go.Rx

/- A step: a record written. -/
set_option linter.unusedVariables false
set_option linter.unusedSimpArgs false
namespace Go.Proofs.YtfjllfjmggooeaaGreatDoor.Rx
open Go.Rx Go.Proofs Go.Proofs.YtfjllfjmggooeaaGreatDoor.RxH
theorem mvSet (w : Wd) (i : Nat) (v' : Live) : [Blk.var [.pv (pI w.clock), .pv (pS w.file.safe), .pv (pS w.file.tail), .pv (pI w.file.cap), .own 1 w.ledgers.length, .own 2 w.lives.length, .own 3 w.outs.length, .pv (pI w.taken)],
      .arr 47 3 (w.ledgers.map Ledger.enc), .arr 44 18 ((w.lives.map Live.enc).set i v'.enc), .arr 3 1 (intRows w.outs)] = mvB (setLive w i v') := by
  have hm2 : (w.lives.set i v').map Live.enc = (w.lives.map Live.enc).set i v'.enc := List.map_set
  have hl2 : (w.lives.set i v').length = w.lives.length := List.length_set
  show _ = [Blk.var [.pv (pI w.clock), .pv (pS w.file.safe), .pv (pS w.file.tail), .pv (pI w.file.cap), .own 1 w.ledgers.length, .own 2 (w.lives.set i v').length, .own 3 w.outs.length, .pv (pI w.taken)],
      .arr 47 3 (w.ledgers.map Ledger.enc), .arr 44 18 ((w.lives.set i v').map Live.enc), .arr 3 1 (intRows w.outs)]
  rw [hm2, hl2]
/-- The record is appended. -/
theorem writtenA_con (w : Wd) (i : Nat) (v : Live) (hi : w.lives[i]? = some v) (hf : w.file.Ok) (hv : v.Ok) (hp : v.put = false) (he : (jappP w.file v.write).2 = 0) :
    ConG P 106 (mvB w) [.lf (.ptr 0 0), .lf (.ept 2 w.lives.length i 18 0)] nilI (mvB (setLive { w with file := (jappP w.file v.write).1 } i { v with put := true })) := by
  have hml : (w.lives.map Live.enc).length = w.lives.length := List.length_map ..
  have hrow : (w.lives.map Live.enc)[i]? = some v.enc := by rw [List.getElem?_map, hi]; rfl
  have ca := jappend_con w.file hf v.write hv.write
  generalize jappP w.file v.write = x at ca he
  obtain ⟨f', e⟩ := x
  simp only at he
  subst he
  rw [← mvSet]
  obtain ⟨s, tries, due, write, put⟩ := v
  simp only at hp
  subst hp
  refine ConG.of T_ok Tryz.func106 rfl (by kernel_rfl) (by kernel_rfl) (aw_of T_ok (by kernel_rfl) ?_)
  conv => whnf
  refine ⟨hml, hml, rfl, hml, _, hrow, ?_⟩
  conv => whnf
  refine AW.draw T_ok rfl (.one 0 (.one 1 (.one 2 (.one 3 (.one 4 (.one 5 (.one 6 (.one 7 (.one 8 (.two 9 (listPl [10, 11, 12, 13, 14, 15]) 13 (listPl [9, 10, 11, 12, 14, 15]))))))))))) (by kernel_rfl) (by kernel_rfl) ?_
  conv => whnf
  refine ⟨hml, hml, rfl, hml, _, hrow, ?_⟩
  conv => whnf
  refine ⟨?_, ?_⟩ <;> conv => whnf
  · refine callU ca (fun _ => rfl) ?_
    conv => whnf
    refine ⟨hml, hml, rfl, hml, _, hrow, by decide, ?_⟩
    conv => whnf
    exact ⟨[], [0, 1, 2, 3], [nilI], [nilI], rfl, rfl, rfl, wk_refl _, rfl⟩
  · refine callU ca (fun _ => rfl) ?_
    conv => whnf
    refine ⟨hml, hml, rfl, hml, _, hrow, by decide, ?_⟩
    conv => whnf
    exact ⟨[], [0, 1, 2, 3], [nilI], [nilI], rfl, rfl, rfl, wk_refl _, rfl⟩
/-- The record is synced, and applied. -/
theorem writtenS_con (w : Wd) (i : Nat) (v : Live) (hi : w.lives[i]? = some v) (hf : w.file.Ok) (hv : v.Ok) (hp : v.put = true) :
    ConG P 106 (mvB w) [.lf (.ptr 0 0), .lf (.ept 2 w.lives.length i 18 0)] nilI (mvB (setLive { w with file := (crashP w.file w.file.tail.size).1 } i ⟨nextS v.saga v.write, 0, w.clock, zRec, false⟩)) := by
  have hml : (w.lives.map Live.enc).length = w.lives.length := List.length_map ..
  have hrow : (w.lives.map Live.enc)[i]? = some v.enc := by rw [List.getElem?_map, hi]; rfl
  have hil : i < w.lives.length := (List.getElem?_eq_some_iff.1 hi).1
  have hset : ∀ r, ((w.lives.map Live.enc).set i r)[i]? = some r := fun r => List.getElem?_set_self (by rw [hml]; exact hil)
  have hsl : ∀ r, ((w.lives.map Live.enc).set i r).length = w.lives.length := fun r => by rw [List.length_set, hml]
  have cf := fsync_con w.file hf
  have cn := next_con v.saga v.write hv.saga.steps.len
  generalize crashP w.file w.file.tail.size = x at cf
  obtain ⟨f', e⟩ := x
  generalize nextS v.saga v.write = s' at cn
  rw [← mvSet]
  obtain ⟨s, tries, due, write, put⟩ := v
  simp only at hp
  subst hp
  have hrw : Fa WkP [pI s'.id, pS s'.key, pS s'.body, encSteps s'.steps, pI s'.done, pB s'.out, pB s'.back, pI s'.left, pI s'.status, pI 0, pI w.clock, pI 0, pI 0, pI 0, pS ⟨#[]⟩, pS ⟨#[]⟩, .sc (.slice none 0 0), pB false] (Live.enc ⟨s', 0, w.clock, zRec, false⟩) :=
    ⟨wkP_refl _, wkP_refl _, wkP_refl _, wkP_refl _, wkP_refl _, wkP_refl _, wkP_refl _, wkP_refl _, wkP_refl _, wkP_refl _, wkP_refl _, wkP_refl _, wkP_refl _, wkP_refl _, wkP_refl _, wkP_refl _, wkP_nil 6, wkP_refl _, trivial⟩
  have hwk : Fa (Fa WkP) ((w.lives.map Live.enc).set i [pI s'.id, pS s'.key, pS s'.body, encSteps s'.steps, pI s'.done, pB s'.out, pB s'.back, pI s'.left, pI s'.status, pI 0, pI w.clock, pI 0, pI 0, pI 0, pS ⟨#[]⟩, pS ⟨#[]⟩, .sc (.slice none 0 0), pB false]) ((w.lives.map Live.enc).set i (Live.enc ⟨s', 0, w.clock, zRec, false⟩)) := fa_setX (fun _ => fa_reflX wkP_refl _) hrw _ _
  refine ConG.wk (b := 2) (B1 := [Blk.var [.pv (pI w.clock), .pv (pS f'.safe), .pv (pS f'.tail), .pv (pI f'.cap), .own 1 w.ledgers.length, .own 2 w.lives.length, .own 3 w.outs.length, .pv (pI w.taken)],
      .arr 47 3 (w.ledgers.map Ledger.enc), .arr 44 18 ((w.lives.map Live.enc).set i [pI s'.id, pS s'.key, pS s'.body, encSteps s'.steps, pI s'.done, pB s'.out, pB s'.back, pI s'.left, pI s'.status, pI 0, pI w.clock, pI 0, pI 0, pI 0, pS ⟨#[]⟩, pS ⟨#[]⟩, .sc (.slice none 0 0), pB false]), .arr 3 1 (intRows w.outs)]) ?_ rfl hwk
  refine ConG.of T_ok Tryz.func106 rfl (by kernel_rfl) (by kernel_rfl) (aw_of T_ok (by kernel_rfl) ?_)
  conv => whnf
  refine ⟨hml, hml, rfl, hml, _, hrow, ?_⟩
  conv => whnf
  refine callU cf (fun _ => rfl) ?_
  conv => whnf
  refine AW.draw T_ok rfl (seqPl 0 13) (by kernel_rfl) (by kernel_rfl) ?_
  conv => whnf
  refine ⟨hml, hml, rfl, hml, _, hrow, ?_⟩
  conv => whnf
  refine ⟨hml, hml, rfl, hml, _, hrow, ?_⟩
  conv => whnf
  refine callU cn (fun _ => rfl) ?_
  conv => whnf
  refine ⟨hml, hml, rfl, hml, _, hrow, by decide, ?_⟩
  conv => whnf
  refine AW.draw T_ok rfl (seqPl 0 13) (by kernel_rfl) (by kernel_rfl) ?_
  conv => whnf
  refine ⟨hsl _, hsl _, rfl, hsl _, _, hset _, ?_⟩
  conv => whnf
  refine ⟨hsl _, rfl, hsl _, _, hset _, by decide, ?_⟩
  conv => whnf
  refine ⟨[], [0, 1, 2, 3], [nilI], [nilI], rfl, ?zz, rfl, wk_refl _, rfl⟩
  show some [_, _, Blk.arr _ 18 ((_ : List (List PV)).set i _ |>.set i _), _] = _
  rw [List.set_set]
  rfl
end Go.Proofs.YtfjllfjmggooeaaGreatDoor.Rx

/- A step: what comes next. -/
set_option linter.unusedVariables false
set_option linter.unusedSimpArgs false
namespace Go.Rx
abbrev Live.encN (v : Live) (k id n : Int) : List PV := [pI v.saga.id, pS v.saga.key, pS v.saga.body, encSteps v.saga.steps, pI v.saga.done, pB v.saga.out, pB v.saga.back, pI v.saga.left, pI v.saga.status, pI v.tries, pI v.due, pI k, pI id, pI n, pS ⟨#[]⟩, pS ⟨#[]⟩, .sc (.slice none 0 0), pB v.put]
theorem encN_wk (v : Live) (k id n : Int) : Fa WkP (v.encN k id n) (Live.enc { v with write := ⟨k, id, n, ⟨#[]⟩, ⟨#[]⟩, []⟩ }) :=
  ⟨wkP_refl _, wkP_refl _, wkP_refl _, wkP_refl _, wkP_refl _, wkP_refl _, wkP_refl _, wkP_refl _, wkP_refl _, wkP_refl _, wkP_refl _, wkP_refl _, wkP_refl _, wkP_refl _, wkP_refl _, wkP_refl _, wkP_nil 6, wkP_refl _, trivial⟩
end Go.Rx
namespace Go.Proofs.YtfjllfjmggooeaaGreatDoor.Rx
open Go.Rx Go.Proofs Go.Proofs.YtfjllfjmggooeaaGreatDoor.RxH
/-- A record without a call. -/
theorem nextR_con (w : Wd) (i : Nat) (v : Live) (k n : Int) (hi : w.lives[i]? = some v)
    (hc : (v.saga.back = false ∧ (v.saga.done == (v.saga.steps.length : Int)) = true ∧ k = 6 ∧ n = 1) ∨ (v.saga.back = true ∧ (v.saga.left == 0) = true ∧ k = 6 ∧ n = 2) ∨ (v.saga.back = false ∧ (v.saga.done == (v.saga.steps.length : Int)) = false ∧ v.saga.out = false ∧ k = 2 ∧ n = v.saga.done)) :
    ConG P 105 (mvB w) [.lf (.ptr 0 0), .lf (.ept 2 w.lives.length i 18 0)] nilI (mvB (setLive w i { v with write := ⟨k, v.saga.id, n, ⟨#[]⟩, ⟨#[]⟩, []⟩ })) := by
  have hml : (w.lives.map Live.enc).length = w.lives.length := List.length_map ..
  have hrow : (w.lives.map Live.enc)[i]? = some v.enc := by rw [List.getElem?_map, hi]; rfl
  have hwk : Fa (Fa WkP) ((w.lives.map Live.enc).set i (v.encN k v.saga.id n)) ((w.lives.map Live.enc).set i (Live.enc { v with write := ⟨k, v.saga.id, n, ⟨#[]⟩, ⟨#[]⟩, []⟩ })) := fa_setX (fun _ => fa_reflX wkP_refl _) (encN_wk v k v.saga.id n) _ _
  rw [← mvSet]
  refine ConG.wk (b := 2) (B1 := [Blk.var [.pv (pI w.clock), .pv (pS w.file.safe), .pv (pS w.file.tail), .pv (pI w.file.cap), .own 1 w.ledgers.length, .own 2 w.lives.length, .own 3 w.outs.length, .pv (pI w.taken)],
      .arr 47 3 (w.ledgers.map Ledger.enc), .arr 44 18 ((w.lives.map Live.enc).set i (v.encN k v.saga.id n)), .arr 3 1 (intRows w.outs)]) ?_ rfl hwk
  obtain ⟨⟨id, key, body, steps, done, out, back, left, status⟩, tries, due, write, put⟩ := v
  have hsm : (steps.map Step.enc).length = steps.length := List.length_map ..
  simp only at hc
  refine ConG.of T_ok Tryz.func105 rfl (by kernel_rfl) (by kernel_rfl) (aw_of T_ok (by kernel_rfl) ?_)
  conv => whnf
  refine ⟨hml, hml, rfl, hml, _, hrow, ?_⟩
  conv => whnf
  rcases hc with ⟨hb, hd, rfl, rfl⟩ | ⟨hb, hl, rfl, rfl⟩ | ⟨hb, hd, ho, rfl, rfl⟩
  · subst hb
    conv => whnf
    split <;> rename_i h1 <;> conv => whnf
    · refine ⟨hml, hml, rfl, hml, _, hrow, by decide, ?_⟩
      conv => whnf
      exact ⟨[], [0, 1, 2, 3], [nilI], [nilI], rfl, rfl, rfl, wk_refl _, rfl⟩
    · have h1' : (done == ((steps.map Step.enc).length : Int)) = false := h1
      rw [hsm, hd] at h1'
      cases h1'
  · subst hb
    conv => whnf
    split <;> rename_i h1 <;> conv => whnf
    · refine ⟨hml, hml, rfl, hml, _, hrow, by decide, ?_⟩
      conv => whnf
      exact ⟨[], [0, 1, 2, 3], [nilI], [nilI], rfl, rfl, rfl, wk_refl _, rfl⟩
    · have h1' : (left == 0) = false := h1
      rw [hl] at h1'
      cases h1'
  · subst hb ho
    conv => whnf
    split <;> rename_i h1 <;> conv => whnf
    · have h1' : (_ == ((steps.map Step.enc).length : Int)) = true := h1
      rw [hsm, hd] at h1'
      cases h1'
    · refine ⟨hml, hml, rfl, hml, _, hrow, by decide, ?_⟩
      conv => whnf
      exact ⟨[], [0, 1, 2, 3], [nilI], [nilI], rfl, rfl, rfl, wk_refl _, rfl⟩
end Go.Proofs.YtfjllfjmggooeaaGreatDoor.Rx

/- A step: a call. -/
set_option linter.unusedVariables false
set_option linter.unusedSimpArgs false
namespace Go.Proofs.YtfjllfjmggooeaaGreatDoor.Rx
open Go.Rx Go.Proofs Go.Proofs.YtfjllfjmggooeaaGreatDoor.RxH
set_option maxHeartbeats 1000000 in
theorem nextC_con (w : Wd) (i : Nat) (v : Live) (hi : w.lives[i]? = some v) (ht : -1 ≤ v.tries ∧ v.tries ≤ 4611686018427387903)
    (hb : (!v.saga.back && (v.saga.done == (v.saga.steps.length : Int))) = false) (hl : (v.saga.back && (v.saga.left == 0)) = false) (ho : (!v.saga.back && !v.saga.out) = false) (hc : CallOk w v.saga) (he : (doneAt w v.saga).2.2 = 0) :
    ConG P 105 (mvB w) [.lf (.ptr 0 0), .lf (.ept 2 w.lives.length i 18 0)] nilI (mvB (setLive (calledW w v.saga) i (nextW w v).2.1)) := by
  have hml : (w.lives.map Live.enc).length = w.lives.length := List.length_map ..
  have hrow : (w.lives.map Live.enc)[i]? = some v.enc := by rw [List.getElem?_map, hi]; rfl
  have cc := called_con w v.saga hc he
  have ca : ConG P 141 (mvB (calledW w v.saga)) [.lf (.ptr 0 0), .lf (.ept 2 (calledW w v.saga).lives.length i 18 0), Go.Rx.I (doneAt w v.saga).2.1] (.tup [recT (answeredL w.clock v (doneAt w v.saga).2.1).2.1, .lf (.pv (pB (answeredL w.clock v (doneAt w v.saga).2.1).2.2))]) (mvB (setLive (calledW w v.saga) i (answeredL w.clock v (doneAt w v.saga).2.1).1)) := answered_con (calledW w v.saga) i v (doneAt w v.saga).2.1 hi ht
  have hn : (nextW w v).2.1 = if (answeredL w.clock v (doneAt w v.saga).2.1).2.2 then { (answeredL w.clock v (doneAt w v.saga).2.1).1 with write := (answeredL w.clock v (doneAt w v.saga).2.1).2.1 } else (answeredL w.clock v (doneAt w v.saga).2.1).1 := by
    rw [nextW]
    simp only
    rw [if_neg (by rw [hb]; decide), if_neg (by rw [hl]; decide), if_neg (by rw [ho]; decide), if_pos he]
  have hm : mvB (calledW w v.saga) = mvB (calledW w v.saga) := rfl
  rw [hn]
  generalize answeredL w.clock v (doneAt w v.saga).2.1 = q at ca
  generalize (doneAt w v.saga).2.1 = a at cc ca
  generalize hW : calledW w v.saga = W at cc ca
  have hlv : W.lives = w.lives := by rw [← hW]; rfl
  obtain ⟨v', r, b⟩ := q
  have hil : i < W.lives.length := by rw [hlv]; exact (List.getElem?_eq_some_iff.1 hi).1
  have hml2 : ((W.lives.set i v').map Live.enc).length = w.lives.length := by rw [List.length_map, List.length_set, hlv]
  have hrow2 : ((W.lives.set i v').map Live.enc)[i]? = some v'.enc := by rw [List.getElem?_map, List.getElem?_set_self hil]; rfl
  have hend : [Blk.var [.pv (pI W.clock), .pv (pS W.file.safe), .pv (pS W.file.tail), .pv (pI W.file.cap), .own 1 W.ledgers.length, .own 2 (W.lives.set i v').length, .own 3 W.outs.length, .pv (pI W.taken)],
      .arr 47 3 (W.ledgers.map Ledger.enc), .arr 44 18 (((W.lives.set i v').map Live.enc).set i (Live.enc { v' with write := r })), .arr 3 1 (intRows W.outs)] = mvB (setLive W i { v' with write := r }) := by
    have e1 : (W.lives.set i { v' with write := r }).map Live.enc = ((W.lives.set i v').map Live.enc).set i (Live.enc { v' with write := r }) := by
      rw [← List.map_set, List.set_set]
    have e2 : (W.lives.set i { v' with write := r }).length = (W.lives.set i v').length := by rw [List.length_set, List.length_set]
    show _ = [Blk.var [.pv (pI W.clock), .pv (pS W.file.safe), .pv (pS W.file.tail), .pv (pI W.file.cap), .own 1 W.ledgers.length, .own 2 (W.lives.set i { v' with write := r }).length, .own 3 W.outs.length, .pv (pI W.taken)],
      .arr 47 3 (W.ledgers.map Ledger.enc), .arr 44 18 ((W.lives.set i { v' with write := r }).map Live.enc), .arr 3 1 (intRows W.outs)]
    rw [e1, e2]
  rw [hlv] at ca
  clear hn hm hW
  obtain ⟨⟨id, key, body, steps, done, out, back, left, status⟩, tries, due, write, put⟩ := v
  have hsm : (steps.map Step.enc).length = steps.length := List.length_map ..
  simp only at hb hl ho
  refine ConG.of T_ok Tryz.func105 rfl (by kernel_rfl) (by kernel_rfl) (aw_ofC T_ok 2006 (by kernel_rfl) ?_)
  conv => whnf
  refine ⟨hml, hml, rfl, hml, _, hrow, ?_⟩
  conv => whnf
  cases back with
  | true =>
    conv => whnf
    split <;> rename_i h1 <;> conv => whnf
    · have h1' : (left == 0) = true := h1
      rw [h1'] at hl
      cases hl
    refine ⟨[0, 1, 2, 3], _, _, _, _, _, nodupB_ok rfl, rfl, rfl, wk_refl _, cc, ?_⟩
    conv => whnf
    refine ⟨rfl, ?_⟩
    conv => whnf
    refine ⟨[0, 1, 2, 3], _, _, _, _, _, nodupB_ok rfl, rfl, rfl, wk_refl _, ca, ?_⟩
    conv => whnf
    refine AW.meet (fun _ : Unit => True) (fun _ => [(0, .lf (.ptr 0 0)), (1, .lf (.ept 2 w.lives.length i 18 0)), (8, .lf (.ptr 5 0)), (9, Bl b)])
      (fun _ => mvB (setLive W i v') ++ [.var [.pv (pI id), .pv (pS key), .pv (pS body), .pv (encSteps steps), .pv (pI done), .pv (pB out), .pv (pB true), .pv (pI left), .pv (pI status)],
        .var [.pv (pI r.kind), .pv (pI r.id), .pv (pI r.n), .pv (pS r.key), .pv (pS r.body), .pv (encSteps r.steps)]]) [] ?_ ?_
    · exact ⟨(), trivial, ⟨rfl, rfl, rfl, rfl, trivial⟩, ⟨[], rfl⟩, rfl, rfl⟩
    rintro _ _
    refine aw_of T_ok (by kernel_rfl) ?_
    conv => whnf
    cases b with
    | true =>
      conv => whnf
      refine ⟨hml2, hml2, rfl, hml2, _, hrow2, by decide, ?_⟩
      conv => whnf
      refine ⟨[], [0, 1, 2, 3], [nilI], [nilI], rfl, ?zt, rfl, wk_refl _, rfl⟩
      show _ = some (mvB (setLive W i { v' with write := r }))
      rw [← hend]
      rfl
    | false =>
      conv => whnf
      refine ⟨[], [0, 1, 2, 3], [nilI], [nilI], rfl, ?zf, rfl, wk_refl _, rfl⟩
      show _ = some (mvB (setLive W i v'))
      rfl
  | false =>
    cases out with
    | false => cases ho
    | true =>
    conv => whnf
    split <;> rename_i h1 <;> conv => whnf
    · have h1' : (done == ((steps.map Step.enc).length : Int)) = true := h1
      rw [hsm] at h1'
      rw [h1'] at hb
      cases hb
    refine ⟨[0, 1, 2, 3], _, _, _, _, _, nodupB_ok rfl, rfl, rfl, wk_refl _, cc, ?_⟩
    conv => whnf
    refine ⟨rfl, ?_⟩
    conv => whnf
    refine ⟨[0, 1, 2, 3], _, _, _, _, _, nodupB_ok rfl, rfl, rfl, wk_refl _, ca, ?_⟩
    conv => whnf
    refine AW.meet (fun _ : Unit => True) (fun _ => [(0, .lf (.ptr 0 0)), (1, .lf (.ept 2 w.lives.length i 18 0)), (8, .lf (.ptr 5 0)), (9, Bl b)])
      (fun _ => mvB (setLive W i v') ++ [.var [.pv (pI id), .pv (pS key), .pv (pS body), .pv (encSteps steps), .pv (pI done), .pv (pB true), .pv (pB false), .pv (pI left), .pv (pI status)],
        .var [.pv (pI r.kind), .pv (pI r.id), .pv (pI r.n), .pv (pS r.key), .pv (pS r.body), .pv (encSteps r.steps)]]) [] ?_ ?_
    · exact ⟨(), trivial, ⟨rfl, rfl, rfl, rfl, trivial⟩, ⟨[], rfl⟩, rfl, rfl⟩
    rintro _ _
    refine aw_of T_ok (by kernel_rfl) ?_
    conv => whnf
    cases b with
    | true =>
      conv => whnf
      refine ⟨hml2, hml2, rfl, hml2, _, hrow2, by decide, ?_⟩
      conv => whnf
      refine ⟨[], [0, 1, 2, 3], [nilI], [nilI], rfl, ?zt2, rfl, wk_refl _, rfl⟩
      show _ = some (mvB (setLive W i { v' with write := r }))
      rw [← hend]
      rfl
    | false =>
      conv => whnf
      refine ⟨[], [0, 1, 2, 3], [nilI], [nilI], rfl, ?zf2, rfl, wk_refl _, rfl⟩
      show _ = some (mvB (setLive W i v'))
      rfl
end Go.Proofs.YtfjllfjmggooeaaGreatDoor.Rx

/- A step, whole. -/
set_option linter.unusedVariables false
set_option linter.unusedSimpArgs false
namespace Go.Rx
/-- A live may go on. -/
structure MoveOk (w : Wd) (v : Live) : Prop where
  file : w.file.Ok
  live : v.Ok
  tries : -1 ≤ v.tries ∧ v.tries ≤ 4611686018427387903
  call : v.write.kind = 0 → (!v.saga.back && (v.saga.done == (v.saga.steps.length : Int))) = false → (v.saga.back && (v.saga.left == 0)) = false → (!v.saga.back && !v.saga.out) = false → CallOk w v.saga
theorem due_go {c : Int} {l : List Live} {k : Nat} (h : k < l.length) : dueGo c (l.drop k) k = if dueB c l[k] then some k else dueGo c (l.drop (k + 1)) (k + 1) := by
  rw [List.drop_eq_getElem_cons h, dueGo]
theorem due_end {c : Int} {l : List Live} {k : Nat} (h : l.length ≤ k) : dueGo c (l.drop k) k = none := by rw [List.drop_of_length_le h, dueGo]
theorem dueGo_some {c : Int} : ∀ {l : List Live} {k i : Nat}, dueGo c l k = some i → k ≤ i ∧ ∃ v, l[i - k]? = some v ∧ dueB c v = true
  | [], k, i, h => by simp [dueGo] at h
  | v :: l, k, i, h => by
    rw [dueGo] at h
    split at h
    · rename_i hv
      cases h
      exact ⟨Nat.le_refl _, v, by simp, hv⟩
    · obtain ⟨h1, v', h2, h3⟩ := dueGo_some h
      refine ⟨by omega, v', ?_, h3⟩
      have : i - k = (i - (k + 1)) + 1 := by omega
      rw [this]; simpa using h2
theorem dueI_some {w : Wd} {i : Nat} (h : dueI w = some i) : ∃ v, w.lives[i]? = some v ∧ dueB w.clock v = true := by
  obtain ⟨_, v, h2, h3⟩ := dueGo_some h
  exact ⟨v, by simpa using h2, h3⟩
theorem nextW_lives (w : Wd) (v : Live) : (nextW w v).1.lives = w.lives := by
  rw [nextW]
  simp only
  split
  · rfl
  split
  · rfl
  split
  · rfl
  split <;> rfl
theorem writtenW_lives (w : Wd) (v : Live) : (writtenW w v).1.lives = w.lives := by
  rw [writtenW]
  split
  · rfl
  split <;> rfl
theorem moveW_lives (w : Wd) (v : Live) : (moveW w v).1.lives = w.lives := by
  rw [moveW]
  split
  · exact writtenW_lives w v
  · exact nextW_lives w v
end Go.Rx
namespace Go.Proofs.YtfjllfjmggooeaaGreatDoor.Rx
open Go.Rx Go.Proofs Go.Proofs.YtfjllfjmggooeaaGreatDoor.RxH
theorem next_conW (w : Wd) (i : Nat) (v : Live) (hi : w.lives[i]? = some v) (h : MoveOk w v) (hw : v.write.kind = 0) (he : (nextW w v).2.2 = 0) :
    ConG P 105 (mvB w) [.lf (.ptr 0 0), .lf (.ept 2 w.lives.length i 18 0)] nilI (mvB (setLive (nextW w v).1 i (nextW w v).2.1)) := by
  have hc := h.call hw
  cases h1 : (!v.saga.back && (v.saga.done == (v.saga.steps.length : Int))) with
  | true =>
    have e : nextW w v = (w, { v with write := { zRec with kind := 6, id := v.saga.id, n := 1 } }, 0) := by rw [nextW]; simp only; rw [if_pos h1]
    rw [e]
    rw [Bool.and_eq_true] at h1
    exact nextR_con w i v 6 1 hi (.inl ⟨by simpa using h1.1, h1.2, rfl, rfl⟩)
  | false =>
  cases h2 : (v.saga.back && (v.saga.left == 0)) with
  | true =>
    have e : nextW w v = (w, { v with write := { zRec with kind := 6, id := v.saga.id, n := 2 } }, 0) := by rw [nextW]; simp only; rw [if_neg (by rw [h1]; decide), if_pos h2]
    rw [e]
    rw [Bool.and_eq_true] at h2
    exact nextR_con w i v 6 2 hi (.inr (.inl ⟨h2.1, h2.2, rfl, rfl⟩))
  | false =>
  cases h3 : (!v.saga.back && !v.saga.out) with
  | true =>
    have e : nextW w v = (w, { v with write := { zRec with kind := 2, id := v.saga.id, n := v.saga.done } }, 0) := by rw [nextW]; simp only; rw [if_neg (by rw [h1]; decide), if_neg (by rw [h2]; decide), if_pos h3]
    rw [e]
    simp only [Bool.and_eq_true, Bool.not_eq_true'] at h3
    rw [h3.1] at h1
    exact nextR_con w i v 2 v.saga.done hi (.inr (.inr ⟨h3.1, by simpa using h1, h3.2, rfl, rfl⟩))
  | false =>
  have hd : (doneAt w v.saga).2.2 = 0 := by
    rw [nextW] at he
    simp only at he
    rw [if_neg (by rw [h1]; decide), if_neg (by rw [h2]; decide), if_neg (by rw [h3]; decide)] at he
    split at he
    · assumption
    · exact he
  have e : (nextW w v).1 = calledW w v.saga := by
    rw [nextW]; simp only; rw [if_neg (by rw [h1]; decide), if_neg (by rw [h2]; decide), if_neg (by rw [h3]; decide), if_pos hd]
  rw [e]
  exact nextC_con w i v hi h.tries h1 h2 h3 (hc h1 h2 h3) hd
theorem written_conW (w : Wd) (i : Nat) (v : Live) (hi : w.lives[i]? = some v) (h : MoveOk w v) (he : (writtenW w v).2.2 = 0) :
    ConG P 106 (mvB w) [.lf (.ptr 0 0), .lf (.ept 2 w.lives.length i 18 0)] nilI (mvB (setLive (writtenW w v).1 i (writtenW w v).2.1)) := by
  cases hp : v.put with
  | true =>
    have e : writtenW w v = ({ w with file := (crashP w.file w.file.tail.size).1 }, ⟨nextS v.saga v.write, 0, w.clock, zRec, false⟩, 0) := by rw [writtenW, if_pos hp]
    rw [e]
    exact writtenS_con w i v hi h.file h.live hp
  | false =>
    have hd : (jappP w.file v.write).2 = 0 := by
      rw [writtenW, if_neg (by rw [hp]; decide)] at he
      split at he
      · assumption
      · exact he
    have e : writtenW w v = ({ w with file := (jappP w.file v.write).1 }, { v with put := true }, 0) := by rw [writtenW, if_neg (by rw [hp]; decide), if_pos hd]
    rw [e]
    exact writtenA_con w i v hi h.file h.live hp hd
abbrev idleI : AV := .lf (.pv (.sc (.iface 154 (.agg #[]))))
/-- What a step that does not fail tells: nil, or that there is none. -/
abbrev stepE (e : Int) : AV := .lf (.pv (.sc (if e = 0 then .nilIface else .iface 154 (.agg #[]))))
theorem stepM_con (w : Wd) (hl : w.lives.length * 200 ≤ 140737488351232) (h : ∀ v, v ∈ w.lives → dueB w.clock v = true → MoveOk w v) (he : (stepW w).2 = 0 ∨ dueI w = none) :
    ConG P 64 (mvB w) [.lf (.ptr 0 0)] (stepE (stepW w).2) (mvB (stepW w).1) := by
  have hml : (w.lives.map Live.enc).length = w.lives.length := List.length_map ..
  obtain ⟨r, hr⟩ : ∃ r, r = stepW w := ⟨_, rfl⟩
  have hd0 : dueI w = dueGo w.clock w.lives 0 := rfl
  rw [← hr] at he ⊢
  refine ConG.of T_ok Tryz.func64 rfl (by kernel_rfl) (by kernel_rfl) (aw_of T_ok (by kernel_rfl) ?_)
  conv => whnf
  refine ⟨hml, ?_⟩
  conv => whnf
  refine AW.loop (fun k : Nat => k ≤ w.lives.length ∧ dueI w = dueGo w.clock (w.lives.drop k) k) (fun k => [(0, .lf (.ptr 0 0)), (13, Go.Rx.I w.lives.length), (14, Go.Rx.I k)]) (fun _ => mvB w) (fun k => w.lives.length - k) [] ?_ ?_
  · exact ⟨0, ⟨Nat.zero_le _, rfl⟩, ⟨rfl, rfl, rfl, trivial⟩, ⟨[], rfl⟩, rfl, rfl⟩
  rintro k ⟨hk, hpre⟩
  refine aw_of T_ok (by kernel_rfl) ?_
  conv => whnf
  split <;> rename_i hlt <;> conv => whnf
  · have hkl : k < w.lives.length := by have := of_decide_eq_true hlt; omega
    have wk : IntKind.i64.wrap ((k : Int) + 1) = ((k + 1 : Nat) : Int) := wrapI (by omega)
    have hrow : (w.lives.map Live.enc)[k]? = some w.lives[k].enc := by simp [hkl]
    have hi : w.lives[k]? = some w.lives[k] := List.getElem?_eq_getElem hkl
    have hmem : w.lives[k] ∈ w.lives := List.getElem_mem hkl
    rw [due_go hkl] at hpre
    have hsw : dueB w.clock w.lives[k] = true → stepW w = if (moveW w w.lives[k]).2.2 = 0 then ({ (moveW w w.lives[k]).1 with lives := w.lives.set k (moveW w w.lives[k]).2.1 }, 0) else (w, (moveW w w.lives[k]).2.2) := fun hb => by
      rw [stepW, hpre, if_pos hb]
      simp only
      rw [hi]
    have hok := h _ hmem
    generalize w.lives[k] = v at hrow hi hpre hsw hok hmem
    refine ⟨hml, by omega, by omega, ?_⟩
    conv => whnf
    refine ⟨hml, hml, hml, rfl, hml, _, hrow, ?_⟩
    conv => whnf
    refine AW.draw T_ok rfl (seqPl 0 22) (by kernel_rfl) (by kernel_rfl) ?_
    conv => whnf
    refine ⟨hml, hml, hml, rfl, hml, _, hrow, ?_⟩
    conv => whnf
    split <;> rename_i h1 <;> conv => whnf
    · have hb : dueB w.clock v = false := by
        have h1' : (v.saga.status != 0) = true := h1
        have : (v.saga.status == 0) = false := by simpa using h1'
        rw [dueB, this]; rfl
      rw [if_neg (by rw [hb]; decide)] at hpre
      exact ⟨k + 1, ⟨⟨hkl, hpre⟩, by omega⟩, ⟨rfl, rfl, congrArg Go.Rx.I wk, trivial⟩, ⟨[], rfl⟩, rfl, rfl⟩
    · have h1' : (v.saga.status == 0) = true := by have h3 : (v.saga.status != 0) = false := h1; simpa using h3
      split <;> rename_i h2 <;> conv => whnf
      · have hk0 : v.write.kind = 0 := by have h3 : (!(v.write.kind != 0)) = true := h2; simpa using h3
        refine ⟨hml, hml, rfl, hml, _, hrow, ?_⟩
        conv => whnf
        split <;> rename_i h4 <;> conv => whnf
        · have hb : dueB w.clock v = false := by
            have h4' : decide (w.clock < v.due) = true := h4
            rw [dueB, h1', h4', hk0]; rfl
          rw [if_neg (by rw [hb]; decide)] at hpre
          exact ⟨k + 1, ⟨⟨hkl, hpre⟩, by omega⟩, ⟨rfl, rfl, congrArg Go.Rx.I wk, trivial⟩, ⟨[], rfl⟩, rfl, rfl⟩
        · have hb : dueB w.clock v = true := by
            have h4' : decide (w.clock < v.due) = false := h4
            rw [dueB, h1', h4', hk0]; rfl
          rw [if_pos hb] at hpre
          have hmv : moveW w v = nextW w v := by rw [moveW, if_neg (by rw [hk0]; decide)]
          have hs := hsw hb
          rw [hmv] at hs
          have he0 : (nextW w v).2.2 = 0 := by
            rcases he with he | he
            · rw [hr, hs] at he
              split at he
              · assumption
              · exact he
            · rw [he] at hpre; cases hpre
          rw [if_pos he0] at hs
          have c := next_conW w k v hi (hok hb) hk0 he0
          have hlv : setLive (nextW w v).1 k (nextW w v).2.1 = { (nextW w v).1 with lives := w.lives.set k (nextW w v).2.1 } := by rw [setLive, nextW_lives]
          rw [hlv] at c
          rw [hs] at hr
          subst hr
          split <;> rename_i h5 <;> conv => whnf
          · have h5' : (v.write.kind != 0) = true := h5
            rw [hk0] at h5'; cases h5'
          refine ⟨[0, 1, 2, 3], _, _, _, _, _, nodupB_ok rfl, rfl, rfl, wk_refl _, c, ?_⟩
          conv => whnf
          refine ⟨rfl, ?_⟩
          conv => whnf
          exact ⟨[], [0, 1, 2, 3], [nilI], [nilI], rfl, rfl, rfl, wk_refl _, rfl⟩
      · have hk0 : (v.write.kind != 0) = true := by have h3 : (!(v.write.kind != 0)) = false := h2; simpa using h3
        have hb : dueB w.clock v = true := by rw [dueB, h1', hk0]; rfl
        rw [if_pos hb] at hpre
        have hmv : moveW w v = writtenW w v := by rw [moveW, if_pos hk0]
        have hs := hsw hb
        rw [hmv] at hs
        have he0 : (writtenW w v).2.2 = 0 := by
          rcases he with he | he
          · rw [hr, hs] at he
            split at he
            · assumption
            · exact he
          · rw [he] at hpre; cases hpre
        rw [if_pos he0] at hs
        have c := written_conW w k v hi (hok hb) he0
        have hlv : setLive (writtenW w v).1 k (writtenW w v).2.1 = { (writtenW w v).1 with lives := w.lives.set k (writtenW w v).2.1 } := by rw [setLive, writtenW_lives]
        rw [hlv] at c
        rw [hs] at hr
        subst hr
        split <;> rename_i h5 <;> conv => whnf
        · refine ⟨[0, 1, 2, 3], _, _, _, _, _, nodupB_ok rfl, rfl, rfl, wk_refl _, c, ?_⟩
          conv => whnf
          refine ⟨rfl, ?_⟩
          conv => whnf
          exact ⟨[], [0, 1, 2, 3], [nilI], [nilI], rfl, rfl, rfl, wk_refl _, rfl⟩
        · have h5' : (v.write.kind != 0) = false := h5
          rw [hk0] at h5'; cases h5'
  · have hkl : w.lives.length ≤ k := by have := of_decide_eq_false hlt; omega
    rw [due_end hkl] at hpre
    have e : stepW w = (w, 3) := by rw [stepW, hpre]
    rw [e] at hr
    subst hr
    exact ⟨[], [0, 1, 2, 3], [idleI], [idleI], rfl, rfl, rfl, wk_refl _, rfl⟩
end Go.Proofs.YtfjllfjmggooeaaGreatDoor.Rx

/- What a step tells: errors.Is over 'idle'; told. -/
set_option linter.unusedVariables false
set_option linter.unusedSimpArgs false
namespace Go.Proofs.YtfjllfjmggooeaaGreatDoor.RxH
open Go.RowKit Go.Proofs Go.Extern.Stop Go.Stop Go.Extern
theorem idTypeOf (w : World) : (Extern.ReflectliteType.typeOf #[.iface 154 (.agg #[])]).run Tryz.prog w = .ok (.iface 216 (.agg #[.pointer (some ⟨2, 154, none⟩)])) w := by kernel_rfl
theorem idComparable (w : World) : ((Extern.ReflectliteType.method fun t => do Extern.Rtype.noPackHeld "Comparable" t; (fun a => Value.bool a.comparable) <$> typeInfo t) #[.agg #[.pointer (some ⟨2, 154, none⟩)]]).run Tryz.prog w = .ok (.bool true) w := by kernel_rfl
theorem idMethod (v : Value) (w : World) : (Go.method 408 216 v "Comparable").run Tryz.prog w = .ok (258, v) w := by kernel_rfl
theorem idEql (w : World) : (Go.binOp .eql 117 (.iface 154 (.agg #[])) (.iface 154 (.agg #[]))).run Tryz.prog w = .ok (.bool true) w := by kernel_rfl
set_option maxRecDepth 100000 in
theorem is_idle (w : World) :
    Calls Tryz.prog 103 #[.iface 154 (.agg #[]), .iface 154 (.agg #[])] w fun e w' => e = .returned (.bool true) ∧ w' = w := by
  have hF8 := @run_callFunc_extern Tryz.prog 134 _ Extern.ReflectliteType.typeOf Tryz.func134 (by kernel_rfl) (by kernel_rfl) (by kernel_rfl) (by kernel_rfl)
  have hF9 := @run_callFunc_extern Tryz.prog 258 _ (Extern.ReflectliteType.method fun t => do Extern.Rtype.noPackHeld "Comparable" t; pure (.bool (← typeInfo t).comparable)) Tryz.func258 (by kernel_rfl) (by kernel_rfl) (by kernel_rfl) (by kernel_rfl)
  have tT := idTypeOf
  have cT := idComparable
  have mR := idMethod
  have heq := idEql
  go_enter Tryz.func103, Tryz.ntmps103
  go_wp2
  refine wp_loop_rounds 1 ?_
  rw [rounds_succ]
  go_wp2
  go_ret
  exact ⟨rfl, rfl⟩
end Go.Proofs.YtfjllfjmggooeaaGreatDoor.RxH
namespace Go.Proofs.YtfjllfjmggooeaaGreatDoor.Rx
open Go.Rx Go.Proofs Go.Proofs.YtfjllfjmggooeaaGreatDoor.RxH
theorem is_con : Con P 103 [idleI, idleI] (Bl true) [] :=
  Con.plain (vs := [.iface 154 (.agg #[]), .iface 154 (.agg #[])]) (by kernel_rfl) rfl fun w => (is_idle w).mono fun e w' ⟨h, h2⟩ => ⟨h, h2 ▸ Go.RowKit.Below.refl _ _⟩
/-- Of a step that does not fail: its error as a number. -/
theorem told_nil : Con P 63 [nilI] (Go.Rx.I 0) [] := by
  refine Con.of T_ok Tryz.func63 rfl (by kernel_rfl) (by kernel_rfl) (aw_of T_ok (by kernel_rfl) ?_)
  conv => whnf
  refine ⟨rfl, ?_⟩
  conv => whnf
  exact finI ⟨rfl⟩
theorem told_idle : Con P 63 [idleI] (Go.Rx.I 3) [] := by
  refine Con.of T_ok Tryz.func63 rfl (by kernel_rfl) (by kernel_rfl) (aw_of T_ok (by kernel_rfl) ?_)
  conv => whnf
  refine callS is_con rfl ?_
  conv => whnf
  exact finI ⟨rfl⟩
end Go.Proofs.YtfjllfjmggooeaaGreatDoor.Rx

/- A world in memory of the call's own. -/
set_option linter.unusedVariables false
set_option linter.unusedSimpArgs false
namespace Go.Rx
abbrev zWd : Wd := ⟨0, ⟨⟨#[]⟩, ⟨#[]⟩, 0⟩, [], [], [], 0⟩
abbrev zWdV : List Lf := [.pv (pI 0), .pv (pS ⟨#[]⟩), .pv (pS ⟨#[]⟩), .pv (pI 0), .pv (.sc (.slice none 0 0)), .pv (.sc (.slice none 0 0)), .pv (.sc (.slice none 0 0)), .pv (pI 0)]
theorem set_same {α : Type} {l : List α} {k : Nat} {a : α} (h : l[k]? = some a) : l.set k a = l := by
  obtain ⟨h1, h2⟩ := List.getElem?_eq_some_iff.1 h
  rw [← h2]; exact List.set_getElem_self h1
end Go.Rx
namespace Go.Proofs.YtfjllfjmggooeaaGreatDoor.Rx
open Go.Rx Go.Proofs Go.Proofs.YtfjllfjmggooeaaGreatDoor.RxH
theorem wown_con (w : Wd) (hw : w.Ok) : Con P 56 [encWd w] (.agg (w.own 0)) [.arr 47 3 (w.ledgers.map Ledger.enc), .arr 44 18 (w.lives.map Live.enc), .arr 3 1 (intRows w.outs)] := by
  have hgm : (w.ledgers.map Ledger.enc).length = w.ledgers.length := List.length_map ..
  have hlm : (w.lives.map Live.enc).length = w.lives.length := List.length_map ..
  have hgl := hw.gl
  have hll := hw.ll
  refine ConG.con (ConG.of T_ok Tryz.func56 rfl (by kernel_rfl) (by kernel_rfl) (aw_of T_ok (by kernel_rfl) ?_)) rfl
  conv => whnf
  refine AW.draw T_ok rfl (listPl [0, 1, 3, 4, 6, 7, 2, 9, 5, 8, 10, 11, 12, 13, 14]) (by kernel_rfl) (by kernel_rfl) ?_
  conv => whnf
  refine ⟨_, _, _, wk_refl _, cloneG_con w.ledgers hw.gl, .inr ?_⟩
  conv => whnf
  refine ⟨_, _, _, wk_refl _, cloneL_con w.lives hw.ll, .inr ?_⟩
  conv => whnf
  refine ⟨_, _, _, wk_refl _, cloneI_con w.outs hw.ol, .inr ?_⟩
  conv => whnf
  refine ⟨hgm, ?_⟩
  conv => whnf
  refine AW.loop (fun k : Nat => k ≤ w.ledgers.length) (fun k => [(1, .lf (.ptr 0 0)), (2, .lf (.ptr 1 0)), (19, .lf (.own 2 w.ledgers.length)), (20, Go.Rx.I w.ledgers.length), (21, Go.Rx.I k)])
    (fun _ => [.var (w.own 2), .var zWdV, .arr 47 3 (w.ledgers.map Ledger.enc), .arr 44 18 (w.lives.map Live.enc), .arr 3 1 (intRows w.outs)]) (fun k => w.ledgers.length - k) [] ?_ ?_
  · exact ⟨0, Nat.zero_le _, ⟨rfl, rfl, rfl, rfl, rfl, trivial⟩, ⟨[], rfl⟩, rfl, rfl⟩
  intro k hk
  refine aw_of T_ok (by kernel_rfl) ?_
  conv => whnf
  split <;> rename_i hlt <;> conv => whnf
  · have hkl : k < w.ledgers.length := by have := of_decide_eq_true hlt; omega
    have hrow : (w.ledgers.map Ledger.enc)[k]? = some w.ledgers[k].enc := by simp [hkl]
    have hok := hw.ledgers _ (List.getElem_mem hkl)
    generalize w.ledgers[k] = g at hrow hok
    refine ⟨hgm, by omega, by omega, ?_⟩
    conv => whnf
    refine ⟨rfl, hgm, _, hrow, ?_⟩
    conv => whnf
    refine AW.draw T_ok rfl (seqPl 0 7) (by kernel_rfl) (by kernel_rfl) ?_
    conv => whnf
    refine ⟨_, _, _, wk_refl _, ownL_con g hok, .inr ?_⟩
    conv => whnf
    refine ⟨hgm, by omega, by omega, ?_⟩
    conv => whnf
    have hge : (g.entries.map Entry.enc).length = g.entries.length := List.length_map ..
    have hgk : (intRows g.known).length = g.known.length := List.length_map ..
    refine ⟨hge, hgk, rfl, hgm, _, hrow, by decide, ?_⟩
    conv => whnf
    have hset : (w.ledgers.map Ledger.enc).set k g.enc = w.ledgers.map Ledger.enc := set_same hrow
    refine ⟨k + 1, ⟨hkl, by omega⟩, ⟨rfl, rfl, rfl, rfl, congrArg Go.Rx.I (wrapI (by omega)), trivial⟩, ⟨[?z1, ?z2, ?z3], ?zb⟩, rfl, rfl⟩
    case zb =>
      show [_, _, Blk.arr _ 3 ((w.ledgers.map Ledger.enc).set k g.enc), _, _, _, _, _] = _
      rw [hset]
      rfl
  · refine ⟨hlm, ?_⟩
    conv => whnf
    refine AW.loop (fun k : Nat => k ≤ w.lives.length) (fun k => [(1, .lf (.ptr 0 0)), (2, .lf (.ptr 1 0)), (35, Go.Rx.I w.lives.length), (36, Go.Rx.I k)])
      (fun _ => [.var (w.own 2), .var zWdV, .arr 47 3 (w.ledgers.map Ledger.enc), .arr 44 18 (w.lives.map Live.enc), .arr 3 1 (intRows w.outs)]) (fun k => w.lives.length - k) [] ?_ ?_
    · exact ⟨0, Nat.zero_le _, ⟨rfl, rfl, rfl, rfl, trivial⟩, ⟨[], rfl⟩, rfl, rfl⟩
    intro k hk
    refine aw_of T_ok (by kernel_rfl) ?_
    conv => whnf
    split <;> rename_i hlt <;> conv => whnf
    · have hkl : k < w.lives.length := by have := of_decide_eq_true hlt; omega
      have hrow : (w.lives.map Live.enc)[k]? = some w.lives[k].enc := by simp [hkl]
      have hok := hw.lives _ (List.getElem_mem hkl)
      generalize w.lives[k] = v at hrow hok
      refine AW.draw T_ok rfl (seqPl 0 13) (by kernel_rfl) (by kernel_rfl) ?_
      conv => whnf
      refine ⟨hlm, by omega, by omega, ?_⟩
      conv => whnf
      refine ⟨hlm, rfl, hlm, _, hrow, ?_⟩
      conv => whnf
      refine callU (own_con v.saga hok.saga.steps.len) (fun _ => rfl) ?_
      conv => whnf
      refine ⟨hlm, by omega, by omega, ?_⟩
      conv => whnf
      refine ⟨hlm, rfl, hlm, _, hrow, by decide, ?_⟩
      conv => whnf
      have hset : (w.lives.map Live.enc).set k v.enc = w.lives.map Live.enc := set_same hrow
      refine ⟨k + 1, ⟨hkl, by omega⟩, ⟨rfl, rfl, rfl, congrArg Go.Rx.I (wrapI (by omega)), trivial⟩, ⟨[], ?zc⟩, rfl, rfl⟩
      case zc =>
        show [_, _, _, Blk.arr _ 18 ((w.lives.map Live.enc).set k v.enc), _] = _
        rw [hset]
        rfl
    · refine ⟨[], [2, 3, 4], [.agg (w.own 0)], [.agg (w.own 0)], rfl, rfl, rfl, wk_refl _, rfl⟩
end Go.Proofs.YtfjllfjmggooeaaGreatDoor.Rx

/- Steps, as many as there may be. -/
set_option linter.unusedVariables false
set_option linter.unusedSimpArgs false
namespace Go.Rx
/-- A step does not fail. -/
structure StepOk (w : Wd) : Prop where
  ll : w.lives.length * 200 ≤ 140737488351232
  move : ∀ v, v ∈ w.lives → dueB w.clock v = true → MoveOk w v
  ok : (stepW w).2 = 0 ∨ dueI w = none
def GoOk : Nat → Wd → Prop
  | 0, _ => True
  | k + 1, w => StepOk w ∧ ((stepW w).2 = 0 → GoOk k (stepW w).1)
theorem goW_go {k : Nat} {w : Wd} (h : (stepW w).2 = 0) : goW (k + 1) w = ((goW k (stepW w).1).1, (goW k (stepW w).1).2 + 1) := by rw [goW, if_pos h]
theorem goW_end {k : Nat} {w : Wd} (h : dueI w = none) : goW (k + 1) w = (w, 0) := by
  have e : (stepW w).2 = 3 := by rw [stepW, h]
  rw [goW, if_neg (by rw [e]; decide)]
abbrev wdI (p : Wd × Nat) : AV := .tup [.agg p.1.lfs, .lf (.pv (pI p.2))]
theorem finWI {w : Wd} {n : Int} {q : Wd × Nat} (h : Fin (w, n) (q.1, (q.2 : Int))) : ∃ zs, Fa WkA [.agg w.lfs, I n] zs ∧ pack zs = some (wdI q) := by
  have h' := h.out
  simp only [Prod.mk.injEq] at h'
  obtain ⟨h1, h2⟩ := h'
  subst h1 h2
  exact ⟨_, wk_refl _, rfl⟩
end Go.Rx
namespace Go.Proofs.YtfjllfjmggooeaaGreatDoor.Rx
open Go.Rx Go.Proofs Go.Proofs.YtfjllfjmggooeaaGreatDoor.RxH
theorem step_go (w : Wd) (h : StepOk w) (he : (stepW w).2 = 0) : ConG P 64 (mvB w) [.lf (.ptr 0 0)] nilI (mvB (stepW w).1) := by
  have c := stepM_con w h.ll h.move h.ok
  rw [he] at c
  exact c
theorem step_end (w : Wd) (h : StepOk w) (he : dueI w = none) : ConG P 64 (mvB w) [.lf (.ptr 0 0)] idleI (mvB w) := by
  have c := stepM_con w h.ll h.move h.ok
  have e : stepW w = (w, 3) := by rw [stepW, he]
  rw [e] at c
  exact c
theorem go_con (w : Wd) (hw : w.Ok) (n : Nat) (hn : n ≤ 100000) (h : GoOk n w) : Con P 53 [encWd w, Go.Rx.I n] (wdI (goW n w)) [] := by
  obtain ⟨r, hr⟩ : ∃ r, r = goW n w := ⟨_, rfl⟩
  rw [← hr]
  refine Con.of T_ok Tryz.func53 rfl (by kernel_rfl) (by kernel_rfl) (aw_of T_ok (by kernel_rfl) ?_)
  conv => whnf
  refine ⟨_, _, _, wk_refl _, wown_con w hw, .inr ?_⟩
  conv => whnf
  refine AW.loop (fun p : Nat × Wd => p.1 ≤ n ∧ GoOk (n - p.1) p.2 ∧ r.1 = (goW (n - p.1) p.2).1 ∧ r.2 = (goW (n - p.1) p.2).2 + p.1) (fun p => [(4, .lf (.ptr 1 0)), (6, .lf (.ptr 5 0)), (1, Go.Rx.I n), (12, Go.Rx.I n), (13, Go.Rx.I p.1)])
    (fun p => [.var w.lfs, .var zWdV, .arr 47 3 (p.2.ledgers.map Ledger.enc), .arr 44 18 (p.2.lives.map Live.enc), .arr 3 1 (intRows p.2.outs), .var (p.2.own 2)]) (fun p => n - p.1) [] ?_ ?_
  · refine ⟨(0, w), ⟨Nat.zero_le _, h, ?_, ?_⟩, ⟨rfl, rfl, rfl, rfl, rfl, trivial⟩, ⟨[], rfl⟩, rfl, rfl⟩
    · rw [hr]; rfl
    · rw [hr]; rfl
  rintro ⟨k, x⟩ ⟨hk, hok, h1, h2⟩
  simp only at hk hok h1 h2
  have hgm : (x.ledgers.map Ledger.enc).length = x.ledgers.length := List.length_map ..
  have hlm : (x.lives.map Live.enc).length = x.lives.length := List.length_map ..
  have hom : (intRows x.outs).length = x.outs.length := List.length_map ..
  refine aw_of T_ok (by kernel_rfl) ?_
  conv => whnf
  split <;> rename_i hlt <;> conv => whnf
  · have hkl : k < n := by have := of_decide_eq_true hlt; omega
    have e : n - k = (n - (k + 1)) + 1 := by omega
    rw [e] at hok h1 h2
    obtain ⟨hs, hgo⟩ := hok
    rcases hs.ok with he | he
    · have c := step_go x hs he
      have hx := hgo he
      rw [goW_go he] at h1 h2
      refine ⟨[5, 2, 3, 4], _, _, _, _, _, nodupB_ok rfl, rfl, rfl, wk_refl _, c, ?_⟩
      conv => whnf
      refine ⟨rfl, ?_⟩
      conv => whnf
      exact ⟨(k + 1, (stepW x).1), ⟨⟨hkl, hx, h1, by have h2' : r.2 = (goW (n - (k + 1)) (stepW x).1).2 + 1 + k := h2; show r.2 = (goW (n - (k + 1)) (stepW x).1).2 + (k + 1); omega⟩, by show n - (k + 1) < n - k; omega⟩, ⟨rfl, rfl, rfl, rfl, congrArg Go.Rx.I (wrapI (by omega)), trivial⟩, ⟨[], rfl⟩, rfl, rfl⟩
    · have c := step_end x hs he
      rw [goW_end he] at h1 h2
      refine ⟨[5, 2, 3, 4], _, _, _, _, _, nodupB_ok rfl, rfl, rfl, wk_refl _, c, ?_⟩
      conv => whnf
      refine ⟨hgm, ?_⟩
      conv => whnf
      refine ⟨hlm, ?_⟩
      conv => whnf
      refine ⟨hom, ?_⟩
      conv => whnf
      exact finWI ⟨by rw [h1, h2]; simp⟩
  · have hkl : n ≤ k := by have := of_decide_eq_false hlt; omega
    have e : n - k = 0 := by omega
    rw [e] at h1 h2
    refine ⟨hgm, ?_⟩
    conv => whnf
    refine ⟨hlm, ?_⟩
    conv => whnf
    refine ⟨hom, ?_⟩
    conv => whnf
    exact finWI ⟨by rw [h1, h2]; show _ = (x, ((0 + k : Nat) : Int)); rw [show k = n by omega]; simp⟩
end Go.Proofs.YtfjllfjmggooeaaGreatDoor.Rx

/- Step, Tick and Idle. -/
set_option linter.unusedVariables false
set_option linter.unusedSimpArgs false
namespace Go.Rx
def stepWd (w : Wd) : Wd × Int := if worldB w then (if (stepW w).2 = 0 then ((stepW w).1, 0) else (zWd, (stepW w).2)) else (zWd, 1)
def tickWd (w : Wd) : Wd × Int := if worldB w then (if 1073741824 ≤ w.clock then (zWd, 9) else ((goW 2000 { w with clock := IntKind.i64.wrap (w.clock + 1) }).1, 0)) else (zWd, 1)
def idleB (w : Wd) : Bool := !(w.lives.any fun v => v.saga.status == 0)
def idleWd (w : Wd) : Bool × Int := if worldB w then (idleB w, 0) else (false, 1)
abbrev wdE (p : Wd × Int) : AV := .tup [.agg p.1.lfs, .lf (.pv (pI p.2))]
theorem finWE {w : Wd} {e : Int} {q : Wd × Int} (h : Fin (w, e) q) : ∃ zs, Fa WkA [.agg w.lfs, I e] zs ∧ pack zs = some (wdE q) := ⟨_, wk_refl _, by rw [← h.out]; rfl⟩
theorem finWZ {e : Int} {q : Wd × Int} (h : Fin (zWd, e) q) : ∃ zs, Fa WkA [.agg zWdV, I e] zs ∧ pack zs = some (wdE q) := by
  rw [← h.out]
  exact ⟨[.agg zWd.lfs, I e], ⟨.inr (.inr ⟨_, _, rfl, rfl, .inl rfl, .inl rfl, .inl rfl, .inl rfl, wkN 3, wkN 18, wkN 1, .inl rfl, trivial⟩), .inl rfl, trivial⟩, rfl⟩
end Go.Rx
namespace Go.Proofs.YtfjllfjmggooeaaGreatDoor.Rx
open Go.Rx Go.Proofs Go.Proofs.YtfjllfjmggooeaaGreatDoor.RxH
theorem stepWd_con (w : Wd) (hw : w.Ok) (h : worldB w = true → StepOk w) : Con P 29 [encWd w] (wdE (stepWd w)) [] := by
  have cm := worldMay_con w hw
  have co := wown_con w hw
  have hq : stepWd w = if worldB w then (if (stepW w).2 = 0 then ((stepW w).1, 0) else (zWd, (stepW w).2)) else (zWd, 1) := rfl
  obtain ⟨q, he⟩ : ∃ q, q = stepWd w := ⟨_, rfl⟩
  rw [← he] at hq ⊢
  refine Con.of T_ok Tryz.func29 rfl (by kernel_rfl) (by kernel_rfl) (aw_of T_ok (by kernel_rfl) ?_)
  conv => whnf
  refine callS cm rfl ?_
  conv => whnf
  cases hb : worldB w with
  | false =>
    rw [hb] at hq
    conv => whnf
    exact finWZ ⟨hq.symm⟩
  | true =>
    rw [hb] at hq
    have hs := h hb
    conv => whnf
    refine ⟨_, _, _, wk_refl _, co, .inr ?_⟩
    conv => whnf
    rcases hs.ok with h0 | h0
    · have c := step_go w hs h0
      have hq' : q = ((stepW w).1, 0) := hq.trans (by rw [if_pos rfl, if_pos h0])
      generalize (stepW w).1 = x at c hq'
      have hgm : (x.ledgers.map Ledger.enc).length = x.ledgers.length := List.length_map ..
      have hlm : (x.lives.map Live.enc).length = x.lives.length := List.length_map ..
      have hom : (intRows x.outs).length = x.outs.length := List.length_map ..
      refine ⟨[5, 2, 3, 4], _, _, _, _, _, nodupB_ok rfl, rfl, rfl, wk_refl _, c, ?_⟩
      conv => whnf
      refine callS told_nil rfl ?_
      conv => whnf
      refine ⟨hgm, ?_⟩
      conv => whnf
      refine ⟨hlm, ?_⟩
      conv => whnf
      refine ⟨hom, ?_⟩
      conv => whnf
      exact finWE ⟨hq'.symm⟩
    · have c := step_end w hs h0
      have e : stepW w = (w, 3) := by rw [stepW, h0]
      have hq' : q = (zWd, 3) := hq.trans (by rw [if_pos rfl, e]; rfl)
      refine ⟨[5, 2, 3, 4], _, _, _, _, _, nodupB_ok rfl, rfl, rfl, wk_refl _, c, ?_⟩
      conv => whnf
      refine callS told_idle rfl ?_
      conv => whnf
      exact finWZ ⟨hq'.symm⟩
theorem tickWd_con (w : Wd) (hw : w.Ok) (h : worldB w = true → w.clock < 1073741824 → GoOk 2000 { w with clock := IntKind.i64.wrap (w.clock + 1) }) : Con P 21 [encWd w] (wdE (tickWd w)) [] := by
  have cm := worldMay_con w hw
  have hq : tickWd w = if worldB w then (if 1073741824 ≤ w.clock then (zWd, 9) else ((goW 2000 { w with clock := IntKind.i64.wrap (w.clock + 1) }).1, 0)) else (zWd, 1) := rfl
  obtain ⟨q, he⟩ : ∃ q, q = tickWd w := ⟨_, rfl⟩
  rw [← he] at hq ⊢
  refine Con.of T_ok Tryz.func21 rfl (by kernel_rfl) (by kernel_rfl) (aw_of T_ok (by kernel_rfl) ?_)
  conv => whnf
  refine callS cm rfl ?_
  conv => whnf
  cases hb : worldB w with
  | false =>
    rw [hb] at hq
    conv => whnf
    exact finWZ ⟨hq.symm⟩
  | true =>
    rw [hb] at hq
    conv => whnf
    split <;> rename_i h1 <;> conv => whnf
    · have h1' : 1073741824 ≤ w.clock := by have := of_decide_eq_true h1; omega
      exact finWZ ⟨by rw [hq, if_pos rfl, if_pos h1']⟩
    · have h1' : ¬ 1073741824 ≤ w.clock := by have := of_decide_eq_false h1; omega
      have c := go_con { w with clock := IntKind.i64.wrap (w.clock + 1) } ⟨hw.file, hw.gl, hw.ll, hw.ol, hw.ledgers, hw.lives⟩ 2000 (by omega) (h hb (by omega))
      rw [if_pos rfl, if_neg h1'] at hq
      generalize goW 2000 { w with clock := IntKind.i64.wrap (w.clock + 1) } = p at c hq
      refine callU c (fun _ => rfl) ?_
      conv => whnf
      exact finWE ⟨hq.symm⟩
theorem idleWd_con (w : Wd) (hw : w.Ok) : Con P 19 [encWd w] (.tup [.lf (.pv (pB (idleWd w).1)), .lf (.pv (pI (idleWd w).2))]) [] := by
  have cm := worldMay_con w hw
  have hq : idleWd w = if worldB w then (!(w.lives.any fun v => v.saga.status == 0), 0) else (false, 1) := rfl
  have ca := anyLv_con 52 (fun v => v.saga.status == 0) w.lives hw.ll (fun v _ => idle1_con v)
  generalize (w.lives.any fun v => v.saga.status == 0) = b at hq ca
  obtain ⟨q, he⟩ : ∃ q, q = idleWd w := ⟨_, rfl⟩
  rw [← he] at hq ⊢
  refine Con.of T_ok Tryz.func19 rfl (by kernel_rfl) (by kernel_rfl) (aw_of T_ok (by kernel_rfl) ?_)
  conv => whnf
  refine callS cm rfl ?_
  conv => whnf
  cases hb : worldB w with
  | false =>
    rw [hb] at hq
    conv => whnf
    exact ⟨[Bl false, Go.Rx.I 1], wk_refl _, by rw [hq]; rfl⟩
  | true =>
    rw [hb] at hq
    conv => whnf
    refine callS ca rfl ?_
    conv => whnf
    exact ⟨[Bl (!b), Go.Rx.I 0], wk_refl _, by rw [hq]; rfl⟩
end Go.Proofs.YtfjllfjmggooeaaGreatDoor.Rx

/- Room for a saga; whether one may begin. -/
set_option linter.unusedVariables false
set_option linter.unusedSimpArgs false
namespace Go.Rx
def beginsB (r : Rec) : Bool := r.kind == 1 && recB r
def roomGo : List Live → Int → Int
  | [], n => n
  | v :: l, n => roomGo l (IntKind.i64.wrap (n + roomI v.saga))
def needW (w : Wd) (r : Rec) : Int := roomGo w.lives (IntKind.i64.wrap (((frmR r).1.size : Int) + roomI (beginS r).1))
def roomW (w : Wd) (r : Rec) : Bool × Int := if (frmR r).2 = 0 then (decide (needW w r ≤ roomF w.file), 0) else (false, (frmR r).2)
abbrev boolI (p : Bool × Int) : AV := .tup [.lf (.pv (pB p.1)), .lf (.pv (pI p.2))]
theorem finBI {b : Bool} {e : Int} {q : Bool × Int} (h : Fin (b, e) q) : ∃ zs, Fa WkA [Bl b, I e] zs ∧ pack zs = some (boolI q) := ⟨_, wk_refl _, by rw [← h.out]; rfl⟩
theorem room_go {l : List Live} {k : Nat} {n : Int} (h : k < l.length) : roomGo (l.drop k) n = roomGo (l.drop (k + 1)) (IntKind.i64.wrap (n + roomI l[k].saga)) := by rw [List.drop_eq_getElem_cons h, roomGo]
theorem room_end {l : List Live} {k : Nat} {n : Int} (h : l.length ≤ k) : roomGo (l.drop k) n = n := by rw [List.drop_of_length_le h, roomGo]
def readyW (w : Wd) (r : Rec) : FileS × Int :=
  if !(worldB w) || (!(beginsB r) || (r.id != IntKind.i64.wrap ((w.lives.length : Int) + 1) || decide (0 ≤ keyI (sagasL w.lives) r.key))) then (zF, 1)
  else if (roomW w r).2 = 0 then (if (roomW w r).1 then jappP w.file r else (zF, 7)) else (zF, (roomW w r).2)
theorem worldB_file {w : Wd} (h : worldB w = true) : fileB w.file = true := by
  unfold worldB at h
  split at h
  · cases h
  split at h
  · cases h
  · rename_i h2
    cases hf : fileB w.file with
    | true => rfl
    | false => rw [hf] at h2; simp at h2
end Go.Rx
namespace Go.Proofs.YtfjllfjmggooeaaGreatDoor.Rx
open Go.Rx Go.Proofs Go.Proofs.YtfjllfjmggooeaaGreatDoor.RxH
theorem begins_con (r : Rec) (hr : r.Ok) : Con P 108 [encRec r] (Bl (beginsB r)) [] := by
  refine Con.of T_ok Tryz.func108 rfl (by kernel_rfl) (by kernel_rfl) (aw_of T_ok (by kernel_rfl) ?_)
  conv => whnf
  split <;> rename_i h1 <;> conv => whnf
  · refine callS (recMay_con r hr) rfl ?_
    conv => whnf
    exact finB ⟨by rw [beginsB, show (r.kind == 1) = true from h1]; rfl⟩
  · exact finB ⟨by rw [beginsB, show (r.kind == 1) = false from h1]; rfl⟩
theorem roomIn_con (w : Wd) (hw : w.Ok) (r : Rec) (hr : r.Ok) (hb : worldB w = true) (hB : beginsB r = true) : Con P 110 [encWd w, encRec r] (boolI (roomW w r)) [] := by
  have hB' : recB r = true := by rw [beginsB, Bool.and_eq_true] at hB; exact hB.2
  have cf := rframe_con r (small_of hB')
  have cb := beginTop_con r hr
  have cr := room_con (beginS r).1
  have hq : roomW w r = if (frmR r).2 = 0 then (decide (roomGo w.lives (IntKind.i64.wrap (((frmR r).1.size : Int) + roomI (beginS r).1)) ≤ roomF w.file), 0) else (false, (frmR r).2) := rfl
  have cfr := froom_con w.file hw.file (worldB_file hb)
  have hll := hw.ll
  generalize frmR r = x at cf hq
  generalize beginS r = y at cb cr hq
  obtain ⟨b, e⟩ := x
  obtain ⟨s0, e0⟩ := y
  simp only at hq cr
  have hlm : (w.lives.map Live.enc).length = w.lives.length := List.length_map ..
  obtain ⟨q, he⟩ : ∃ q, q = roomW w r := ⟨_, rfl⟩
  rw [← he] at hq ⊢
  refine Con.of T_ok Tryz.func110 rfl (by kernel_rfl) (by kernel_rfl) (aw_of T_ok (by kernel_rfl) ?_)
  conv => whnf
  refine callU cf (fun _ => rfl) ?_
  conv => whnf
  split <;> rename_i h1 <;> conv => whnf
  · have h1' : ¬ e = 0 := by have h2 : (e != 0) = true := h1; simpa using h2
    exact finBI ⟨by rw [hq, if_neg h1']⟩
  have h1' : e = 0 := by have h2 : (e != 0) = false := h1; simpa using h2
  rw [if_pos h1'] at hq
  refine callU cb (fun _ => rfl) ?_
  conv => whnf
  refine callS cr rfl ?_
  conv => whnf
  obtain ⟨m, hm⟩ : ∃ m, m = roomGo w.lives (IntKind.i64.wrap ((b.size : Int) + roomI s0)) := ⟨_, rfl⟩
  rw [← hm] at hq
  refine AW.loop (fun p : Nat × Int => p.1 ≤ w.lives.length ∧ roomGo (w.lives.drop p.1) p.2 = m) (fun p => [(2, .lf (.ptr 0 0)), (10, Go.Rx.I p.2), (32, .lf (.pv (encLives w.lives))), (33, Go.Rx.I w.lives.length), (34, Go.Rx.I p.1)]) (fun _ => [.var w.lfs]) (fun p => w.lives.length - p.1) [] ?_ ?_
  · exact ⟨(0, _), ⟨Nat.zero_le _, hm.symm⟩, ⟨rfl, rfl, rfl, congrArg (fun n : Nat => Go.Rx.I (n : Int)) (List.length_map ..), rfl, trivial⟩, ⟨[_, _], rfl⟩, rfl, rfl⟩
  rintro ⟨k, n⟩ ⟨hk, hpre⟩
  simp only at hk hpre
  refine aw_of T_ok (by kernel_rfl) ?_
  conv => whnf
  split <;> rename_i hlt <;> conv => whnf
  · have hkl : k < w.lives.length := by have := of_decide_eq_true hlt; omega
    have hrow : (w.lives.map Live.enc)[k]? = some w.lives[k].enc := by simp [hkl]
    rw [room_go hkl] at hpre
    generalize w.lives[k] = v at hrow hpre
    refine ⟨by omega, _, hrow, ?_⟩
    conv => whnf
    refine callS (room_con v.saga) rfl ?_
    conv => whnf
    exact ⟨(k + 1, _), ⟨⟨hkl, hpre⟩, by show w.lives.length - (k + 1) < w.lives.length - k; omega⟩, ⟨rfl, rfl, rfl, rfl, congrArg Go.Rx.I (wrapI (by omega)), trivial⟩, ⟨[_], rfl⟩, rfl, rfl⟩
  · have hkl : w.lives.length ≤ k := by have := of_decide_eq_false hlt; omega
    rw [room_end hkl] at hpre
    refine callS cfr rfl ?_
    conv => whnf
    exact finBI ⟨by rw [hq, ← hpre]⟩
theorem ready_con (w : Wd) (hw : w.Ok) (r : Rec) (hr : r.Ok) : Con P 69 [encWd w, encRec r] (fileE (readyW w r)) [] := by
  have cm := worldMay_con w hw
  have cb := begins_con r hr
  have cs := sagas_con w.lives hw.ll
  have hsm : ((sagasL w.lives).map Saga.enc).length = (sagasL w.lives).length := List.length_map ..
  have hlm : (w.lives.map Live.enc).length = w.lives.length := List.length_map ..
  have ck := keyed_con (sagasL w.lives) r.key (by rw [sagasL, List.length_map]; have := hw.ll; omega)
  have cj := jappend_con w.file hw.file r hr
  have ci := roomIn_con w hw r hr
  have hq : readyW w r = if !(worldB w) || (!(beginsB r) || (r.id != IntKind.i64.wrap ((w.lives.length : Int) + 1) || decide (0 ≤ keyI (sagasL w.lives) r.key))) then (zF, 1)
    else if (roomW w r).2 = 0 then (if (roomW w r).1 then jappP w.file r else (zF, 7)) else (zF, (roomW w r).2) := rfl
  obtain ⟨q, he⟩ : ∃ q, q = readyW w r := ⟨_, rfl⟩
  rw [← he] at hq ⊢
  refine Con.of T_ok Tryz.func69 rfl (by kernel_rfl) (by kernel_rfl) (aw_of T_ok (by kernel_rfl) ?_)
  conv => whnf
  refine AW.draw T_ok rfl (listPl [0, 1, 2, 3, 4, 5, 6, 7, 8, 9, 10, 11, 12, 13, 14, 15, 16, 17, 18, 19, 21, 22, 20, 23, 24, 25]) (by kernel_rfl) (by kernel_rfl) ?_
  conv => whnf
  refine callS cm rfl ?_
  conv => whnf
  cases h1 : worldB w with
  | false =>
    rw [h1] at hq
    conv => whnf
    exact finFE ⟨hq.symm⟩
  | true =>
  rw [h1] at hq
  conv => whnf
  refine callS cb rfl ?_
  conv => whnf
  cases h2 : beginsB r with
  | false =>
    rw [h2] at hq
    conv => whnf
    exact finFE ⟨hq.symm⟩
  | true =>
  rw [h2] at hq
  have ci' := ci h1 h2
  generalize roomW w r = x at ci' hq
  generalize jappP w.file r = y at cj hq
  conv => whnf
  split <;> rename_i h3 <;> conv => whnf
  · have h3' : (r.id != IntKind.i64.wrap ((w.lives.length : Int) + 1)) = true := by rw [← hlm]; exact h3
    exact finFE ⟨by rw [hq, h3']; rfl⟩
  have h3' : (r.id != IntKind.i64.wrap ((w.lives.length : Int) + 1)) = false := by rw [← hlm]; exact h3
  rw [h3'] at hq
  refine ⟨_, _, _, wk_refl _, cs, .inr ?_⟩
  conv => whnf
  refine ⟨hsm, ?_⟩
  conv => whnf
  refine callS ck rfl ?_
  conv => whnf
  generalize keyI (sagasL w.lives) r.key = kk at hq
  split <;> rename_i h4 <;> conv => whnf
  · have h4' : decide (0 ≤ kk) = true := h4
    exact finFE ⟨by rw [hq, h4']; rfl⟩
  have h4' : decide (0 ≤ kk) = false := h4
  rw [h4', if_neg (by decide)] at hq
  refine callU ci' (fun _ => rfl) ?_
  obtain ⟨ok, e⟩ := x
  simp only at hq
  conv => whnf
  split <;> rename_i h5 <;> conv => whnf
  · have h5' : ¬ e = 0 := by have h6 : (e != 0) = true := h5; simpa using h6
    exact finFE ⟨by rw [hq, if_neg h5']; rfl⟩
  have h5' : e = 0 := by have h6 : (e != 0) = false := h5; simpa using h6
  rw [if_pos h5'] at hq
  cases ok with
  | false =>
    conv => whnf
    exact finFE ⟨by rw [hq]; rfl⟩
  | true =>
    conv => whnf
    refine callU cj (fun _ => rfl) ?_
    conv => whnf
    exact finFE ⟨by rw [hq]; rfl⟩
end Go.Proofs.YtfjllfjmggooeaaGreatDoor.Rx

/- A saga begins in a world; a world without sagas. -/
set_option linter.unusedVariables false
set_option linter.unusedSimpArgs false
namespace Go.Rx
def beginWd (w : Wd) (r : Rec) : Wd × Int :=
  if (readyW w r).2 = 0 then ({ w with file := (crashP (readyW w r).1 (readyW w r).1.tail.size).1, lives := w.lives ++ [⟨(beginS r).1, 0, w.clock, zRec, false⟩] }, 0) else (zWd, (readyW w r).2)
def newL : List Ledger := [⟨1, [], []⟩, ⟨2, [], []⟩, ⟨3, [], []⟩, ⟨4, [], []⟩]
def newWd (size : Int) (outs : List Int) : Wd × Int :=
  if (newF size).2 = 0 then (if worldB ⟨0, (newF size).1, newL, [], outs, 0⟩ then (⟨0, (newF size).1, newL, [], outs, 0⟩, 0) else (zWd, 1)) else (zWd, (newF size).2)
theorem jappP_ok {f : FileS} {r : Rec} (h : (jappP f r).2 = 0) : (jappP f r).1.Ok := by
  unfold jappP at h ⊢
  split at h
  · rename_i hb
    rw [if_pos hb]
    split at h
    · rename_i h2
      rw [if_pos h2]
      unfold fappP at h ⊢
      rw [if_pos hb] at h ⊢
      split at h
      · cases h
      · rename_i h3
        rw [if_neg h3]
        have h4 := fileB_iff.1 hb
        unfold roomF at h3
        refine ⟨?_, ?_⟩
        · show f.safe.size ≤ _; omega
        · show (f.tail ++ (bytesR r).1).size ≤ _; rw [ByteArray.size_append]; omega
    · rename_i h2; exact absurd h h2
  · cases h
theorem readyW_ok {w : Wd} {r : Rec} (h : (readyW w r).2 = 0) : (readyW w r).1.Ok := by
  unfold readyW at h ⊢
  split at h
  · cases h
  rename_i h1
  rw [if_neg h1]
  split at h
  · rename_i h2
    rw [if_pos h2]
    split at h
    · rename_i h3
      rw [if_pos h3]
      exact jappP_ok h
    · cases h
  · rename_i h2; exact absurd h h2
abbrev Live.encZ (s : Saga) (c : Int) : List PV := [pI s.id, pS s.key, pS s.body, encSteps s.steps, pI s.done, pB s.out, pB s.back, pI s.left, pI s.status, pI 0, pI c, pI 0, pI 0, pI 0, pS ⟨#[]⟩, pS ⟨#[]⟩, .sc (.slice none 0 0), pB false]
theorem encZ_wk (s : Saga) (c : Int) : Fa WkP (Live.encZ s c) (Live.enc ⟨s, 0, c, zRec, false⟩) :=
  ⟨wkP_refl _, wkP_refl _, wkP_refl _, wkP_refl _, wkP_refl _, wkP_refl _, wkP_refl _, wkP_refl _, wkP_refl _, wkP_refl _, wkP_refl _, wkP_refl _, wkP_refl _, wkP_refl _, wkP_refl _, wkP_refl _, wkP_nil 6, wkP_refl _, trivial⟩
theorem finWB {c t : Int} {f : FileS} {g : List Ledger} {l : List Live} {o : List Int} {s : Saga} {q : Wd × Int} (h : Fin (⟨c, f, g, l ++ [⟨s, 0, c, zRec, false⟩], o, t⟩, 0) q) :
    ∃ zs, Fa WkA [.agg [.pv (pI c), .pv (pS f.safe), .pv (pS f.tail), .pv (pI f.cap), .pv (encLedgers g), .pv (.sl 18 (l.map Live.enc ++ [Live.encZ s c])), .pv (encInts o), .pv (pI t)], I 0] zs ∧ pack zs = some (wdE q) := by
  rw [← h.out]
  refine ⟨[.agg (Wd.lfs ⟨c, f, g, l ++ [⟨s, 0, c, zRec, false⟩], o, t⟩), I 0], ⟨.inr (.inr ⟨_, _, rfl, rfl, .inl rfl, .inl rfl, .inl rfl, .inl rfl, .inl rfl, ?_, .inl rfl, .inl rfl, trivial⟩), .inl rfl, trivial⟩, rfl⟩
  refine .inr ⟨_, _, rfl, rfl, wkPR ?_⟩
  rw [List.map_append]
  exact (fa_reflX (fun _ => fa_reflX wkP_refl _) _).append ⟨encZ_wk s c, trivial⟩
end Go.Rx
namespace Go.Proofs.YtfjllfjmggooeaaGreatDoor.Rx
open Go.Rx Go.Proofs Go.Proofs.YtfjllfjmggooeaaGreatDoor.RxH
set_option maxHeartbeats 4000000 in
theorem beginWd_con (w : Wd) (hw : w.Ok) (r : Rec) (hr : r.Ok) : Con P 35 [encWd w, encRec r] (wdE (beginWd w r)) [] := by
  have cr := ready_con w hw r hr
  have co := wown_con w hw
  have cb := beginTop_con r hr
  have hok := @readyW_ok w r
  have hq : beginWd w r = if (readyW w r).2 = 0 then ({ w with file := (crashP (readyW w r).1 (readyW w r).1.tail.size).1, lives := w.lives ++ [⟨(beginS r).1, 0, w.clock, zRec, false⟩] }, 0) else (zWd, (readyW w r).2) := rfl
  generalize beginS r = y at cb hq
  generalize readyW w r = x at cr hok hq
  obtain ⟨f, e⟩ := x
  obtain ⟨s0, e0⟩ := y
  simp only at hok hq
  have hgm : (w.ledgers.map Ledger.enc).length = w.ledgers.length := List.length_map ..
  have hlm : (w.lives.map Live.enc).length = w.lives.length := List.length_map ..
  have hom : (intRows w.outs).length = w.outs.length := List.length_map ..
  have hll := hw.ll
  obtain ⟨q, he⟩ : ∃ q, q = beginWd w r := ⟨_, rfl⟩
  rw [← he] at hq ⊢
  refine Con.of T_ok Tryz.func35 rfl (by kernel_rfl) (by kernel_rfl) (aw_of T_ok (by kernel_rfl) ?_)
  conv => whnf
  refine callU cr (fun _ => rfl) ?_
  conv => whnf
  split <;> rename_i h1 <;> conv => whnf
  · have h1' : ¬ e = 0 := by have h2 : (e != 0) = true := h1; simpa using h2
    exact finWZ ⟨by rw [hq, if_neg h1']⟩
  have h1' : e = 0 := by have h2 : (e != 0) = false := h1; simpa using h2
  rw [if_pos h1'] at hq
  have cs := fsync_con f (hok h1')
  generalize crashP f f.tail.size = z at cs hq
  obtain ⟨f2, e2⟩ := z
  refine ⟨_, _, _, wk_refl _, co, .inr ?_⟩
  conv => whnf
  refine callU cs (fun _ => rfl) ?_
  conv => whnf
  refine callU cb (fun _ => rfl) ?_
  conv => whnf
  refine ⟨rfl, _, .inl rfl, ?_⟩
  conv => whnf
  refine ⟨hlm, by show (w.lives.length + 1) * 200 ≤ _; omega, ?_⟩
  conv => whnf
  refine ⟨hgm, ?_⟩
  conv => whnf
  refine ⟨by rw [List.length_append, hlm], ?_⟩
  conv => whnf
  refine ⟨hom, ?_⟩
  conv => whnf
  exact finWB ⟨hq.symm⟩
end Go.Proofs.YtfjllfjmggooeaaGreatDoor.Rx

/- A world without sagas. -/
set_option linter.unusedVariables false
set_option linter.unusedSimpArgs false
namespace Go.Rx
theorem finWN {f : FileS} {o : List Int} {q : Wd × Int} (h : Fin (⟨0, f, newL, [], o, 0⟩, 0) q) :
    ∃ zs, Fa WkA [.agg [.pv (pI 0), .pv (pS f.safe), .pv (pS f.tail), .pv (pI f.cap), .pv (encLedgers newL), .pv (.sc (.slice none 0 0)), .pv (encInts o), .pv (pI 0)], I 0] zs ∧ pack zs = some (wdE q) := by
  rw [← h.out]
  exact ⟨[.agg (Wd.lfs ⟨0, f, newL, [], o, 0⟩), I 0], ⟨.inr (.inr ⟨_, _, rfl, rfl, .inl rfl, .inl rfl, .inl rfl, .inl rfl, .inl rfl, wkN 18, .inl rfl, .inl rfl, trivial⟩), .inl rfl, trivial⟩, rfl⟩
end Go.Rx
namespace Go.Proofs.YtfjllfjmggooeaaGreatDoor.Rx
open Go.Rx Go.Proofs Go.Proofs.YtfjllfjmggooeaaGreatDoor.RxH
theorem new1_con (k : Nat) (hk : k < 4) : Con P 67 [Go.Rx.I (IntKind.i64.wrap ((k : Int) + 1))] (ledgE (⟨((k + 1 : Nat) : Int), [], []⟩, 0)) [] := by
  have c := new_con (IntKind.i64.wrap ((k : Int) + 1))
  have e : IntKind.i64.wrap ((k : Int) + 1) = ((k + 1 : Nat) : Int) := wrapI (by omega)
  rw [e] at c ⊢
  have e2 : newP ((k + 1 : Nat) : Int) = (⟨((k + 1 : Nat) : Int), [], []⟩, 0) := by
    unfold newP
    rw [if_pos (by unfold svB; simp; omega)]
  rw [e2] at c
  exact c
theorem newL_take (k : Nat) (hk : k < 4) : newL.take (k + 1) = newL.take k ++ [⟨((k + 1 : Nat) : Int), [], []⟩] := by
  match k, hk with
  | 0, _ => rfl
  | 1, _ => rfl
  | 2, _ => rfl
  | 3, _ => rfl
set_option maxHeartbeats 4000000 in
theorem newWd_con (size : Int) (outs : List Int) (ho : outs.length * 8 ≤ 140737488351232) : Con P 32 [Go.Rx.I size, .lf (.pv (encInts outs))] (wdE (newWd size outs)) [] := by
  have cf := fnew_con size
  have cc := cloneI_con outs ho
  have hq : newWd size outs = if (newF size).2 = 0 then (if worldB ⟨0, (newF size).1, newL, [], outs, 0⟩ then (⟨0, (newF size).1, newL, [], outs, 0⟩, 0) else (zWd, 1)) else (zWd, (newF size).2) := rfl
  have hfo : (newF size).1.Ok := by
    unfold newF
    split
    · exact ⟨Nat.zero_le _, Nat.zero_le _⟩
    · exact ⟨Nat.zero_le _, Nat.zero_le _⟩
  generalize newF size = x at cf hq hfo
  obtain ⟨f, e⟩ := x
  simp only at hq hfo
  have cm := worldMay_con ⟨0, f, newL, [], outs, 0⟩ ⟨hfo, by show 4 * 56 ≤ _; decide, by show 0 * 200 ≤ _; decide, ho, fun g hg => by
    have hz : (⟨1, [], []⟩ : Ledger).Ok ∧ (⟨2, [], []⟩ : Ledger).Ok ∧ (⟨3, [], []⟩ : Ledger).Ok ∧ (⟨4, [], []⟩ : Ledger).Ok := by
      refine ⟨?_, ?_, ?_, ?_⟩ <;> exact ⟨by decide, by decide, fun x hx => by cases hx⟩
    have hg' : g ∈ [(⟨1, [], []⟩ : Ledger), ⟨2, [], []⟩, ⟨3, [], []⟩, ⟨4, [], []⟩] := hg
    simp only [List.mem_cons, List.not_mem_nil, or_false] at hg'
    rcases hg' with h | h | h | h
    · rw [h]; exact hz.1
    · rw [h]; exact hz.2.1
    · rw [h]; exact hz.2.2.1
    · rw [h]; exact hz.2.2.2, fun v hv => by cases hv⟩
  have hom : (intRows outs).length = outs.length := List.length_map ..
  obtain ⟨q, he⟩ : ∃ q, q = newWd size outs := ⟨_, rfl⟩
  rw [← he] at hq ⊢
  generalize worldB ⟨0, f, newL, [], outs, 0⟩ = wb at cm hq
  refine Con.of T_ok Tryz.func32 rfl (by kernel_rfl) (by kernel_rfl) (aw_ofC T_ok 2004 (by kernel_rfl) ?_)
  conv => whnf
  refine callU cf (fun _ => rfl) ?_
  conv => whnf
  split <;> rename_i h1 <;> conv => whnf
  · have h1' : ¬ e = 0 := by have h2 : (e != 0) = true := h1; simpa using h2
    exact finWZ ⟨by rw [hq, if_neg h1']⟩
  have h1' : e = 0 := by have h2 : (e != 0) = false := h1; simpa using h2
  rw [if_pos h1'] at hq
  refine AW.cutS (fun _ : Unit => True) (fun _ => [(4, .lf (.ptr 0 0)), (8, .lf (.ptr 1 0))])
    (fun _ => [.var zWdV, .var [.pv (pI 0), .pv (pS f.safe), .pv (pS f.tail), .pv (pI f.cap), .pv (.sc (.slice none 0 0)), .pv (.sc (.slice none 0 0)), .own 2 outs.length, .pv (pI 0)], .arr 3 1 (intRows outs)]) (aw_of T_ok (by kernel_rfl) ?_) ?_
  · conv => whnf
    refine AW.draw T_ok rfl (.one 0 (.one 1 (.two 2 (listPl [3, 4, 5]) 4 (listPl [2, 3, 5])))) (by kernel_rfl) (by kernel_rfl) ?_
    conv => whnf
    refine ⟨?_, ?_⟩ <;> conv => whnf
    · refine ⟨_, _, _, wk_refl _, cc, .inr ?_⟩
      conv => whnf
      refine ⟨[0, 3, 2], [(4, .lf (.ptr 0 0)), (8, .lf (.ptr 3 0))], ⟨rfl, rfl, trivial⟩, rfl, _, _, rfl, rfl, [], ?_⟩
      exact ⟨(), trivial, ⟨rfl, rfl, trivial⟩, ⟨[], rfl⟩, rfl, rfl⟩
    · refine ⟨_, _, _, wk_refl _, cc, .inr ?_⟩
      conv => whnf
      refine ⟨[0, 2, 3], [(4, .lf (.ptr 0 0)), (8, .lf (.ptr 2 0))], ⟨rfl, rfl, trivial⟩, rfl, _, _, rfl, rfl, [], ?_⟩
      exact ⟨(), trivial, ⟨rfl, rfl, trivial⟩, ⟨[], rfl⟩, rfl, rfl⟩
  rintro _ _
  refine aw_of T_ok (by kernel_rfl) ?_
  conv => whnf
  refine AW.loop (fun k : Nat => k ≤ 4) (fun k => [(4, .lf (.ptr 0 0)), (8, .lf (.ptr 1 0)), (25, Go.Rx.I k)])
    (fun k => [.var zWdV, .var [.pv (pI 0), .pv (pS f.safe), .pv (pS f.tail), .pv (pI f.cap), .own 3 (newL.take k).length, .pv (.sc (.slice none 0 0)), .own 2 outs.length, .pv (pI 0)], .arr 3 1 (intRows outs), .arr 47 3 ((newL.take k).map Ledger.enc)]) (fun k => 4 - k) [.cell 1 4 47 3] ?_ ?_
  · exact ⟨rfl, 0, Nat.zero_le _, ⟨rfl, rfl, rfl, trivial⟩, ⟨[], rfl⟩, rfl, rfl⟩
  intro k hk
  refine aw_of T_ok (by kernel_rfl) ?_
  conv => whnf
  split <;> rename_i hlt <;> conv => whnf
  · have hkl : k < 4 := by have := of_decide_eq_true hlt; omega
    refine callU (new1_con k hkl) (fun _ => rfl) ?_
    conv => whnf
    refine ⟨rfl, _, .inl rfl, ?_⟩
    conv => whnf
    have htl : (newL.take k).length ≤ 4 := by rw [List.length_take]; show min k 4 ≤ 4; omega
    refine ⟨List.length_map .., by show ((newL.take k).length + 1) * 56 ≤ _; omega, ?_⟩
    conv => whnf
    refine ⟨k + 1, ⟨hkl, by omega⟩, ⟨rfl, rfl, congrArg Go.Rx.I (wrapI (by omega)), trivial⟩, ⟨[?z1, ?z2], ?zb⟩, rfl, rfl⟩
    case zb =>
      show _ = [_, Blk.var [_, _, _, _, .own 3 (newL.take (k + 1)).length, _, _, _], _, Blk.arr _ 3 ((newL.take (k + 1)).map Ledger.enc)] ++ [_, _]
      rw [newL_take k hkl, List.length_append, List.map_append]
      rfl
  · have hkl : k = 4 := by have := of_decide_eq_false hlt; omega
    subst hkl
    refine ⟨rfl, ?_⟩
    conv => whnf
    refine ⟨hom, ?_⟩
    conv => whnf
    refine callW cm ⟨.inr (.inr ⟨_, _, rfl, rfl, .inl rfl, .inl rfl, .inl rfl, .inl rfl, .inl rfl, wkN 18, .inl rfl, .inl rfl, trivial⟩), trivial⟩ rfl ?_
    conv => whnf
    cases wb with
    | false =>
      conv => whnf
      exact finWZ ⟨by rw [hq]; rfl⟩
    | true =>
      conv => whnf
      refine ⟨rfl, ?_⟩
      conv => whnf
      refine ⟨hom, ?_⟩
      conv => whnf
      exact finWN ⟨by rw [hq]; rfl⟩
end Go.Proofs.YtfjllfjmggooeaaGreatDoor.Rx

/- Journals that are cut off, or rotten: plain words. -/
set_option linter.unusedVariables false
set_option linter.unusedSimpArgs false
namespace Go.Rx
structure FAct where
  kind : Int
  n : Int
  s : ByteArray
abbrev FAct.enc (a : FAct) : List PV := [pI a.kind, pI a.n, pS a.s]
structure Ask13 (R : List Rec) (S : List ByteArray) (F : FileS) (A : List FAct) : Prop where
  a11 : Ask11 R S
  file : F.Ok
  len : A.length * 32 ≤ 140737488351232
  each : ∀ a ∈ A, okS a.s
abbrev encFActs (A : List FAct) : PV := .sl 3 (A.map FAct.enc)
abbrev encAsk13 (R : List Rec) (S : List ByteArray) (N : List Int) (F : FileS) (n : Int) (A : List FAct) : AV := .agg [.pv (encRecs R), .pv (encStrs S), .pv (encInts N), .pv (pS F.safe), .pv (pS F.tail), .pv (pI F.cap), .pv (pI n), .pv (encFActs A)]
abbrev ask13V (R : List Rec) (S : List ByteArray) (N : List Int) (F : FileS) (n : Int) (A : List FAct) : Blk := .var [.pv (encRecs R), .pv (encStrs S), .pv (encInts N), .pv (pS F.safe), .pv (pS F.tail), .pv (pI F.cap), .pv (pI n), .pv (encFActs A)]
def heavy12G : List FAct → Int → Int
  | [], n => n
  | a :: l, n => if n < 1048576 then heavy12G l (n + a.s.size) else n
theorem heavy12_ge : ∀ (l : List FAct) (n : Int), n ≤ heavy12G l n
  | [], n => Int.le_refl _
  | a :: l, n => by
    rw [heavy12G]; split
    · have := heavy12_ge l (n + a.s.size); omega
    · exact Int.le_refl _
def heavy12N (F : FileS) (A : List FAct) : Int := heavy12G A ((F.safe.size : Int) + F.tail.size + A.length)
/-- Where the records of bytes end. -/
def endsL (A : List Rec) : List Int := (List.range A.length).map fun k => ((catR (A.take (k + 1))).size : Int)
theorem ends_len (A : List Rec) : (endsL A).length = A.length := by simp [endsL]
theorem ends_snoc (A : List Rec) (r : Rec) : endsL (A ++ [r]) = endsL A ++ [((catR (A ++ [r])).size : Int)] := by
  rw [endsL, endsL, List.length_append, List.length_singleton, List.range_succ, List.map_append]
  congr 1
  · refine List.map_congr_left fun k hk => ?_
    have := List.mem_range.1 hk
    rw [List.take_append_of_le_length (by omega)]
  · show [((catR ((A ++ [r]).take (A.length + 1))).size : Int)] = _
    rw [List.take_of_length_le (by rw [List.length_append, List.length_singleton]; exact Nat.le_refl _)]
/-- How many ends there are among the first that are not behind a place: what the loop counts. -/
theorem whole_step : ∀ {A : List Rec} {n k : Nat}, (∀ r ∈ A, GoodR r) → k < A.length → ((catR (A.take (k + 1))).size ≤ n ↔ k + 1 ≤ wholeN A n)
  | [], n, k, _, hk => absurd hk (Nat.not_lt_zero _)
  | r :: A, n, 0, h, _ => by
    have e : catR ((r :: A).take (0 + 1)) = frR r := by show catR [r] = _; exact catR_one r
    rw [e, wholeN]
    split
    · exact ⟨fun _ => by omega, fun _ => by assumption⟩
    · rename_i hn
      exact ⟨fun h => absurd h hn, fun h => by omega⟩
  | r :: A, n, k + 1, h, hk => by
    have e : catR ((r :: A).take (k + 1 + 1)) = frR r ++ catR (A.take (k + 1)) := rfl
    rw [e, ByteArray.size_append, wholeN]
    have ih := whole_step (A := A) (n := n - (frR r).size) (k := k) (fun x hx => h x (List.mem_cons_of_mem _ hx)) (by simpa using hk)
    split
    · rename_i hle
      constructor
      · intro h2; have := ih.1 (by omega); omega
      · intro h2; have := ih.2 (by omega); omega
    · rename_i hle
      constructor
      · intro h2; omega
      · intro h2; omega
/-- What is counted behind k of the ends. -/
def manyN (A : List Rec) (n k : Nat) : Nat := min k (wholeN A n)
theorem many_step {A : List Rec} {n k : Nat} (h : ∀ r ∈ A, GoodR r) (hk : k < A.length) : manyN A n (k + 1) = if (catR (A.take (k + 1))).size ≤ n then k + 1 else manyN A n k := by
  have hs := whole_step (n := n) h hk
  unfold manyN
  split
  · rename_i hle
    have := hs.1 hle; omega
  · rename_i hle
    have : ¬ k + 1 ≤ wholeN A n := fun h2 => hle (hs.2 h2)
    omega
theorem japp_ok {f : FileS} {r : Rec} (h : (jappP f r).2 = 0) : fileB f = true ∧ GoodR r ∧ (jappP f r).1 = ⟨f.safe, f.tail ++ frR r, f.cap⟩ ∧ (f.safe.size : Int) + f.tail.size + (frR r).size ≤ f.cap := by
  unfold jappP at h ⊢
  by_cases c1 : fileB f = true
  rotate_left
  · rw [if_neg c1] at h; cases h
  rw [if_pos c1] at h ⊢
  by_cases c2 : (bytesR r).2 = 0
  rotate_left
  · rw [if_neg c2] at h
    exact absurd h c2
  rw [if_pos c2] at h ⊢
  obtain ⟨e1, e2, e3⟩ := bytes_ok c2
  unfold fappP at h ⊢
  rw [if_pos c1] at h ⊢
  by_cases c3 : roomF f < (bytesR r).1.size
  · rw [if_pos c3] at h; cases h
  rw [if_neg c3]
  rw [e3] at c3 ⊢
  unfold roomF at c3
  exact ⟨c1, ⟨e1, e2⟩, rfl, by show (f.safe.size : Int) + f.tail.size + (frame (plainS r)).size ≤ f.cap; omega⟩
end Go.Rx
namespace Go.Proofs.YtfjllfjmggooeaaGreatDoor.Rx
open Go.Rx Go.Proofs Go.Proofs.YtfjllfjmggooeaaGreatDoor.RxB
theorem heavyZ_con : Con P 55 [.agg [.pv (encRecs []), .pv (encStrs []), .pv (encInts [])]] (Bl false) [] := by
  have c := heavy11V_con [] [] [] (by decide) (fun r hr => (List.not_mem_nil hr).elim) (by decide)
  have e : heavy11B [] [] [] = false := by decide
  rw [e] at c
  exact c
theorem abort1_b : recB ⟨4, 1, 0, ⟨#[]⟩, ⟨#[]⟩, []⟩ = true := by decide
end Go.Proofs.YtfjllfjmggooeaaGreatDoor.Rx

/- The page's files and records; which files the law makes. -/
set_option linter.unusedVariables false
set_option linter.unusedSimpArgs false
namespace Go.Rx
theorem capSum_ge : ∀ (l : List Int) (n : Int), 0 ≤ n → (∀ x ∈ l, 0 ≤ x ∧ x ≤ 140737488351232) → n ≤ 150000000000000 → n ≤ capSum l n
  | [], n, _, _, _ => Int.le_refl _
  | x :: l, n, h0, h, hn => by
    have hx := h x (List.mem_cons_self ..)
    rw [capSum]
    split
    · rw [wrapI (by omega)]
      have := capSum_ge l (n + x) (by omega) (fun y hy => h y (List.mem_cons_of_mem _ hy)) (by omega)
      omega
    · exact Int.le_refl _
theorem capSum_each : ∀ (l : List Int) (n : Int), 0 ≤ n → n ≤ 150000000000000 → (∀ x ∈ l, 0 ≤ x ∧ x ≤ 140737488351232) → capSum l n < 1048576 → ∀ x ∈ l, x ≤ capSum l n
  | [], n, _, _, _, _, x, hx => (List.not_mem_nil hx).elim
  | y :: l, n, h0, hn, h, hc, x, hx => by
    have hy := h y (List.mem_cons_self ..)
    have hl : ∀ x ∈ l, 0 ≤ x ∧ x ≤ 140737488351232 := fun z hz => h z (List.mem_cons_of_mem _ hz)
    by_cases c : n < 1048576
    · have e : capSum (y :: l) n = capSum l (n + y) := by rw [capSum, if_pos c, wrapI (by omega)]
      rw [e] at hc ⊢
      rcases List.mem_cons.1 hx with rfl | hx
      · have := capSum_ge l (n + x) (by omega) hl (by omega)
        omega
      · exact capSum_each l (n + y) (by omega) (by omega) hl hc x hx
    · rw [capSum, if_neg c] at hc
      exact absurd hc c
theorem texts_le {S : List ByteArray} {N : List Int} (hS : ∀ s ∈ S, okS s) (hl : S.length * 16 ≤ 140737488351232) (hN : N.length ≤ 140737488351232) (h : heavy2B S N = false) : ∀ s ∈ S, s.size ≤ 7000 := fun s hs => by
  have hb : ∀ x ∈ (S.map fun s => (s.size : Int)), 0 ≤ x ∧ x ≤ 140737488351232 := fun x hx => by
    obtain ⟨t, ht, rfl⟩ := List.mem_map.1 hx
    have : t.size ≤ 140737488351232 := hS t ht
    omega
  have h1 := capSum_ge (S.map fun s => (s.size : Int)) S.length (by omega) hb (by omega)
  have h2 := capSum_each (S.map fun s => (s.size : Int)) S.length (by omega) (by omega) hb
  have hm := List.mem_map_of_mem (f := fun s : ByteArray => (s.size : Int)) hs
  unfold heavy2B at h
  rw [List.length_map] at h
  have ht : textsW S = capSum (S.map fun s => (s.size : Int)) S.length := rfl
  by_cases c : textsW S < 1048576
  · rw [← ht] at h1 h2
    have h3 := h2 c _ hm
    have h4 : ¬ 7000 < IntKind.i64.wrap (textsW S + (N.length : Int)) := of_decide_eq_false h
    rw [wrapI (by omega)] at h4
    omega
  · exfalso
    have hup : ∀ (l : List Int) (n : Int), 0 ≤ n → n ≤ 150000000000000 → (∀ x ∈ l, 0 ≤ x ∧ x ≤ 140737488351232) → capSum l n ≤ 150000000000000 := fun l => by
      induction l with
      | nil => intro n _ hn _; exact hn
      | cons y l ih =>
        intro n h0 hn hl
        rw [capSum]
        have hy := hl y (List.mem_cons_self ..)
        split
        · rw [wrapI (by omega)]
          exact ih _ (by omega) (by omega) fun z hz => hl z (List.mem_cons_of_mem _ hz)
        · exact hn
    have h5 := hup (S.map fun s => (s.size : Int)) S.length (by omega) (by omega) hb
    rw [← ht] at h5
    have h4 : ¬ 7000 < IntKind.i64.wrap (textsW S + (N.length : Int)) := of_decide_eq_false h
    rw [wrapI (by omega)] at h4
    omega
abbrev cutI (s : ByteArray) (i : Nat) : Nat := (IntKind.i64.wrap (IntKind.i64.wrap ((s.size : Int) - 1) - i)).toNat
def var4 (s : ByteArray) (i : Nat) : List FileS :=
  [⟨s, ⟨#[]⟩, 9000⟩, ⟨s, ⟨#[120]⟩, 9000⟩, ⟨s.extract 0 (cutI s i), ⟨#[]⟩, 9000⟩, ⟨s ++ ⟨#[0, 0, 0, 16]⟩, ⟨#[]⟩, IntKind.i64.wrap (IntKind.i64.wrap ((s.size : Int) + 4) + i)⟩]
def fileStep (r : Rec) (i : Nat) (x : ByteArray × List FileS) : ByteArray × List FileS :=
  if (recB r && ((bytes9R r).2 && decide (x.1.size + (bytes9R r).1.size ≤ 7000))) = true then (x.1 ++ (bytes9R r).1, x.2 ++ var4 (x.1 ++ (bytes9R r).1) i) else x
def filesG : List Rec → Nat → ByteArray × List FileS → ByteArray × List FileS
  | [], _, x => x
  | r :: R, i, x => if 8 ≤ i then x else filesG R (i + 1) (fileStep r i x)
def txtF (s t : ByteArray) : FileS := ⟨s ++ t, ⟨#[]⟩, 20000⟩
def filesL (R : List Rec) (S : List ByteArray) (F : FileS) : List FileS := (filesG R 0 (⟨#[]⟩, [F, ⟨⟨#[]⟩, ⟨#[]⟩, 50⟩])).2 ++ (S.take 2).map (txtF (filesG R 0 (⟨#[]⟩, [F, ⟨⟨#[]⟩, ⟨#[]⟩, 50⟩])).1)
structure FsOk (f : FileS) : Prop where
  ok : f.Ok
  le : f.safe.size ≤ 1000000
def FsAll (l : List FileS) : Prop := ∀ f ∈ l, FsOk f
theorem FsAll.app {l m : List FileS} (h : FsAll l) (k : FsAll m) : FsAll (l ++ m) := fun f hf => by
  rcases List.mem_append.1 hf with h1 | h1
  · exact h f h1
  · exact k f h1
theorem stepJ_ok {r : Rec} {i : Nat} {x : ByteArray × List FileS} (h1 : x.1.size ≤ 7000) (h2 : FsAll x.2) : (fileStep r i x).1.size ≤ 7000 ∧ FsAll (fileStep r i x).2 ∧ (fileStep r i x).2.length ≤ x.2.length + 4 := by
  unfold fileStep
  split
  · rename_i hc
    simp only [Bool.and_eq_true, decide_eq_true_eq] at hc
    have hs : (x.1 ++ (bytes9R r).1).size = x.1.size + (bytes9R r).1.size := ByteArray.size_append
    refine ⟨by show (x.1 ++ (bytes9R r).1).size ≤ 7000; omega, h2.app fun f hf => ?_, by show (x.2 ++ var4 _ i).length ≤ _; rw [List.length_append]; exact Nat.le_refl _⟩
    generalize x.1 ++ (bytes9R r).1 = s at hs hf
    have hs7 : s.size ≤ 7000 := by omega
    have e1 : (s.extract 0 (cutI s i)).size ≤ s.size := by rw [ByteArray.size_extract]; omega
    have e2 : (s ++ ⟨#[0, 0, 0, 16]⟩).size = s.size + 4 := ByteArray.size_append
    simp only [var4, List.mem_cons, List.not_mem_nil, or_false] at hf
    rcases hf with rfl | rfl | rfl | rfl
    · exact ⟨⟨by show s.size ≤ _; omega, Nat.zero_le _⟩, by show s.size ≤ _; omega⟩
    · exact ⟨⟨by show s.size ≤ _; omega, by show (1 : Nat) ≤ _; omega⟩, by show s.size ≤ _; omega⟩
    · exact ⟨⟨by show (s.extract 0 (cutI s i)).size ≤ _; omega, Nat.zero_le _⟩, by show (s.extract 0 (cutI s i)).size ≤ _; omega⟩
    · exact ⟨⟨by show (s ++ ⟨#[0, 0, 0, 16]⟩).size ≤ _; omega, Nat.zero_le _⟩, by show (s ++ ⟨#[0, 0, 0, 16]⟩).size ≤ _; omega⟩
  · exact ⟨h1, h2, by omega⟩
theorem filesG_ok : ∀ (R : List Rec) (i : Nat) (x : ByteArray × List FileS), i ≤ 8 → x.1.size ≤ 7000 → FsAll x.2 → x.2.length ≤ 2 + 4 * i → (filesG R i x).1.size ≤ 7000 ∧ FsAll (filesG R i x).2 ∧ (filesG R i x).2.length ≤ 34
  | [], i, x, hi, h1, h2, h3 => ⟨h1, h2, by show x.2.length ≤ 34; omega⟩
  | r :: R, i, x, hi, h1, h2, h3 => by
    rw [filesG]
    split
    · exact ⟨h1, h2, by omega⟩
    · obtain ⟨a, b, c⟩ := stepJ_ok (r := r) (i := i) h1 h2
      exact filesG_ok R (i + 1) _ (by omega) a b (by omega)
theorem files_ok {R : List Rec} {S : List ByteArray} {F : FileS} (hF : FsOk F) (hS : ∀ s ∈ S, s.size ≤ 7000) : FsAll (filesL R S F) ∧ (filesL R S F).length ≤ 36 := by
  obtain ⟨a, b, c⟩ := filesG_ok R 0 (⟨#[]⟩, [F, ⟨⟨#[]⟩, ⟨#[]⟩, 50⟩]) (by omega) (Nat.zero_le _) (fun f hf => by
    simp only [List.mem_cons, List.not_mem_nil, or_false] at hf
    rcases hf with rfl | rfl
    · exact hF
    · exact ⟨⟨Nat.zero_le _, Nat.zero_le _⟩, Nat.zero_le _⟩) (Nat.le_refl _)
  refine ⟨b.app fun f hf => ?_, ?_⟩
  · obtain ⟨t, ht, rfl⟩ := List.mem_map.1 hf
    have h7 := hS t (List.mem_of_mem_take ht)
    have e : (txtF (filesG R 0 (⟨#[]⟩, [F, ⟨⟨#[]⟩, ⟨#[]⟩, 50⟩])).1 t).safe.size = (filesG R 0 (⟨#[]⟩, [F, ⟨⟨#[]⟩, ⟨#[]⟩, 50⟩])).1.size + t.size := ByteArray.size_append
    exact ⟨⟨by show ByteArray.size _ ≤ _; omega, Nat.zero_le _⟩, by omega⟩
  · rw [filesL, List.length_append, List.length_map, List.length_take]; omega
end Go.Rx
namespace Go.Proofs.YtfjllfjmggooeaaGreatDoor.Rx
open Go.Rx Go.Proofs Go.Proofs.YtfjllfjmggooeaaGreatDoor.RxB
theorem file9_con (f : FileS) (h : f.Ok) : Con P 30 [encFile f] (Bl (fileB f)) [] := by
  have h1 := h.safe
  have h2 := h.tail
  obtain ⟨q, hq⟩ : ∃ q, q = fileB f := ⟨_, rfl⟩
  rw [← hq]
  refine Con.of T_ok Tryz.func30 rfl (by kernel_rfl) (by kernel_rfl) (aw_of T_ok (by kernel_rfl) ?_)
  conv => whnf
  refine callS (between_con f.cap 1 60000) rfl ?_
  conv => whnf
  split <;> rename_i t1 <;> conv => whnf
  · have hc : (decide (1 ≤ f.cap) && decide (f.cap ≤ 60000)) = true := t1
    simp only [Bool.and_eq_true, decide_eq_true_eq] at hc
    split <;> rename_i t2 <;> conv => whnf
    · have a2 : (f.safe.size : Int) ≤ f.cap := of_decide_eq_true t2
      refine finB ⟨?_⟩
      rw [hq, wrapI (by omega), fileB, decide_eq_true hc.1, decide_eq_true hc.2, Bool.true_and, Bool.true_and, decide_eq_decide]
      omega
    · have a2 : ¬ (f.safe.size : Int) ≤ f.cap := of_decide_eq_false t2
      refine finB ⟨?_⟩
      rw [hq, eq_comm, ← Bool.not_eq_true, fileB_iff]
      omega
  · have hc : (decide (1 ≤ f.cap) && decide (f.cap ≤ 60000)) = false := t1
    refine finB ⟨?_⟩
    rw [hq, fileB, ← Bool.and_assoc, hc]; rfl
theorem free9_con (f : FileS) (h : f.Ok) (hb : fileB f = true) : Con P 15 [encFile f] (Go.Rx.I (roomF f)) [] := by
  obtain ⟨h1, h2, h3⟩ := fileB_iff.1 hb
  refine Con.of T_ok Tryz.func15 rfl (by kernel_rfl) (by kernel_rfl) (aw_of T_ok (by kernel_rfl) ?_)
  conv => whnf
  exact finI ⟨by rw [wrapI (n := f.cap - f.safe.size) (by omega), wrapI (by omega), roomF]⟩
end Go.Proofs.YtfjllfjmggooeaaGreatDoor.Rx

/- The page's look at a world. -/
set_option linter.unusedVariables false
set_option linter.unusedSimpArgs false
namespace Go.Rx
def outsB (l : List Int) : Bool := decide ((l.length : Int) ≤ 400) && !(l.any outBad)
/-- May a live be, whose saga may be: as the page says. -/
def live9B (v : Live) : Bool :=
  if !(decide (0 ≤ v.tries) && decide (v.tries ≤ 1073741824)) || !(decide (0 ≤ v.due) && decide (v.due ≤ 1073741832)) then false
  else if decide (v.write = zRec) then !v.put else if !(recB v.write) || v.write.kind == 1 then false else fitsL v
theorem idx_ge {α : Type} {p : α → Bool} : ∀ (l : List α) (k : Nat), -1 ≤ idxL p l k
  | [], k => by rw [idxL]; exact Int.le_refl _
  | a :: l, k => by
    rw [idxL]
    split
    · omega
    · exact idx_ge l (k + 1)
theorem nothing_eq (r : Rec) : nothingB r = decide (r = zRec) := by
  obtain ⟨k, i, n, key, body, steps⟩ := r
  rw [nothingB, zRec, recEq]
  simp only
  cases steps with
  | nil => simp [Bool.and_assoc]
  | cons a l =>
    simp
    intros
    omega
theorem live9_eq (v : Live) : live9B v = liveB v := by
  have hc : (!(decide (0 ≤ v.tries) && decide (v.tries ≤ 1073741824)) || !(decide (0 ≤ v.due) && decide (v.due ≤ 1073741832))) = (decide (v.tries < 0) || (decide (1073741824 < v.tries) || (decide (v.due < 0) || decide (1073741832 < v.due)))) := by
    rw [Bool.eq_iff_iff]; simp; omega
  have hd : (if (!(recB v.write) || v.write.kind == 1) = true then false else fitsL v) = (v.write.kind != 1 && (recB v.write && fitsL v)) := by
    cases h : v.write.kind == 1 <;> cases recB v.write <;> simp [bne, h]
  rw [live9B, liveB, nothing_eq, hc, hd]
end Go.Rx
namespace Go.Proofs.YtfjllfjmggooeaaGreatDoor.Rx
open Go.Rx Go.Proofs Go.Proofs.YtfjllfjmggooeaaGreatDoor.RxH
theorem sagas9_con (l : List Saga) (hl : l.length * 96 ≤ 140737488351232) (hs : ∀ s ∈ l, s.Ok) : Con P 43 [.lf (.pv (encSagas l))] (Bl (togB l)) [] := by
  have hm : (l.map Saga.enc).length = l.length := List.length_map ..
  refine Con.of T_ok Tryz.func43 rfl (by kernel_rfl) (by kernel_rfl) (aw_of T_ok (by kernel_rfl) ?_)
  conv => whnf
  split <;> rename_i h0 <;> conv => whnf
  · have h0' : ¬ l.length ≤ 20 := by have : ((l.map Saga.enc).length : Int) > 20 := of_decide_eq_true h0
                                     omega
    exact finB ⟨by rw [togB, show decide (l.length ≤ 20) = false from decide_eq_false h0', Bool.and_false]⟩
  have h0' : l.length ≤ 20 := by have : ¬ ((l.map Saga.enc).length : Int) > 20 := of_decide_eq_false h0
                                 omega
  refine AW.loop (fun k : Nat => k ≤ l.length ∧ ∀ j, j < k → togAt l j = true) (fun k => [(0, .lf (.pv (encSagas l))), (3, Go.Rx.I k)]) (fun _ => []) (fun k => l.length - k) [] ?_ ?_
  · exact ⟨0, ⟨Nat.zero_le _, fun j hj => absurd hj (Nat.not_lt_zero _)⟩, ⟨rfl, rfl, trivial⟩, ⟨[], rfl⟩, rfl, rfl⟩
  rintro k ⟨hk, hpre⟩
  refine aw_of T_ok (by kernel_rfl) ?_
  conv => whnf
  split <;> rename_i hlt <;> conv => whnf
  · have hkl : k < l.length := by simpa using hlt
    have hrow : (l.map Saga.enc)[k]? = some (l[k]).enc := by simp [hkl]
    have hat := togAt_eq hkl
    have hsk := hs _ (List.getElem_mem hkl)
    have hid : ∀ (i : Nat) (s : Saga), (l.take k)[i]? = some s → s.id = i + 1 := fun i s hi => by
      have hik : i < k := by have := (List.getElem?_eq_some_iff.1 hi).1; rw [List.length_take] at this; omega
      have h1 := hpre i hik
      rw [List.getElem?_take_of_lt hik] at hi
      unfold togAt at h1
      rw [hi] at h1
      simp only [Bool.and_eq_true, beq_iff_eq] at h1
      rw [h1.2.1]; simp
    generalize l[k] = s at hrow hat hsk
    have no : togAt l k = false → false = togB l := fun h => by rw [togB, tog_no hkl h]; rfl
    refine AW.draw T_ok rfl (listPl [0, 1, 2, 3, 4, 5, 6, 7, 8, 9, 10, 11, 12, 13, 14, 15, 16, 17, 18, 20, 21, 22, 23, 24, 19, 25, 26, 27]) (by kernel_rfl) (by kernel_rfl) ?_
    conv => whnf
    refine ⟨by omega, s.enc, hrow, ?_⟩
    conv => whnf
    refine callS (saga9_con s hsk) rfl ?_
    conv => whnf
    split <;> rename_i h1 <;> conv => whnf
    · exact finB ⟨no (by rw [hat, show sagaB s = false by simpa using h1]; rfl)⟩
    have w1 : IntKind.i64.wrap ((k : Int) + 1) = ((k + 1 : Nat) : Int) := wrapI (by omega)
    refine ⟨by omega, s.enc, hrow, ?_⟩
    conv => whnf
    split <;> rename_i h2 <;> conv => whnf
    · refine finB ⟨no ?_⟩
      have h2' : (s.id != IntKind.i64.wrap ((k : Int) + 1)) = true := h2
      rw [w1] at h2'
      rw [hat, show (s.id == ((k + 1 : Nat) : Int)) = false by simpa using h2']
      simp
    have h2' : (s.id == ((k + 1 : Nat) : Int)) = true := by
      have h2' : (s.id != IntKind.i64.wrap ((k : Int) + 1)) = false := h2
      rw [w1] at h2'
      simpa using h2'
    refine ⟨by omega, s.enc, hrow, ?_⟩
    conv => whnf
    refine ⟨by decide, by omega, by rw [hm]; omega, ?_⟩
    conv => whnf
    have ck := find9_con (l.take k) s.key (by rw [List.length_take]; omega) hid
    rw [show encSagas (l.take k) = .sl 9 ((l.map Saga.enc).take k) by rw [encSagas, List.map_take]] at ck
    refine callS ck rfl ?_
    conv => whnf
    have hkn : -1 ≤ keyI (l.take k) s.key := idx_ge _ _
    split <;> rename_i h3 <;> conv => whnf
    · refine finB ⟨no ?_⟩
      have h3' : keyI (l.take k) s.key + 1 > 0 := of_decide_eq_true h3
      rw [hat, decide_eq_true (show 0 ≤ keyI (l.take k) s.key by omega)]
      simp
    have h3' : ¬ keyI (l.take k) s.key + 1 > 0 := of_decide_eq_false h3
    refine ⟨k + 1, ⟨⟨by omega, fun j hj => ?_⟩, by omega⟩, ⟨rfl, congrArg Go.Rx.I w1, trivial⟩, ⟨[], rfl⟩, rfl, rfl⟩
    rcases Nat.lt_or_ge j k with hjk | hjk
    · exact hpre j hjk
    · obtain rfl : j = k := by omega
      rw [hat, show sagaB s = true by simpa using h1, h2', decide_eq_false (show ¬ 0 ≤ keyI (l.take j) s.key by omega)]
      rfl
  · have hkl : k = l.length := by have : ¬ ((k : Int) < (l.length : Int)) := by simpa using hlt
                                  omega
    refine finB ⟨?_⟩
    rw [togB, tog_yes (fun j hj => hpre j (by omega)), Bool.true_and, decide_eq_true h0']
theorem outs16_con (l : List Int) (hl : l.length * 8 ≤ 140737488351232) : Con P 31 [.lf (.pv (encInts l))] (Bl (outsB l)) [] := by
  have hm : (l.map fun n => [pI n]).length = l.length := List.length_map ..
  have hq : outsB l = (decide ((l.length : Int) ≤ 400) && !(l.any outBad)) := rfl
  refine Con.of T_ok Tryz.func31 rfl (by kernel_rfl) (by kernel_rfl) (aw_of T_ok (by kernel_rfl) ?_)
  conv => whnf
  refine AW.loop (fun k : Nat => k ≤ l.length ∧ k ≤ 401 ∧ (l.take k).any outBad = false) (fun k => [(0, .lf (.pv (encInts l))), (3, Go.Rx.I k)]) (fun _ => []) (fun k => l.length - k) [] ?_ ?_
  · exact ⟨0, ⟨Nat.zero_le _, Nat.zero_le _, rfl⟩, ⟨rfl, rfl, trivial⟩, ⟨[], rfl⟩, rfl, rfl⟩
  rintro k ⟨hk, hk4, hpre⟩
  have fin : ¬ (k < l.length ∧ k ≤ 400) → decide ((l.length : Int) ≤ 400) = outsB l := fun h => by
    rw [hq]
    by_cases h4 : l.length ≤ 400
    · have : k = l.length := by omega
      rw [this, List.take_length] at hpre
      rw [hpre, Bool.not_false, Bool.and_true]
    · rw [decide_eq_false (by omega)]; rfl
  refine aw_of T_ok (by kernel_rfl) ?_
  conv => whnf
  split <;> rename_i hlt <;> conv => whnf
  · have hkl : k < l.length := by have : (k : Int) < ((l.map fun n => [pI n]).length : Int) := of_decide_eq_true hlt
                                  omega
    split <;> rename_i h4 <;> conv => whnf
    · have h4' : k ≤ 400 := by have : (k : Int) ≤ 400 := of_decide_eq_true h4
                               omega
      have hrow : (l.map fun n => [pI n])[k]? = some [pI l[k]] := by simp [hkl]
      have hnx : l.take (k + 1) = l.take k ++ [l[k]] := take_succ' hkl
      have hmem := List.getElem_mem hkl
      generalize l[k] = n at hrow hnx hmem
      refine ⟨by omega, _, hrow, ?_⟩
      conv => whnf
      refine callS (between_con n 0 3) rfl ?_
      conv => whnf
      split <;> rename_i h5 <;> conv => whnf
      · have h5' : outBad n = true := by
          have h6 : (!(decide (0 ≤ n) && decide (n ≤ 3))) = true := h5
          rw [outBad]; simp at h6 ⊢; omega
        refine finB ⟨?_⟩
        rw [hq, show l.any outBad = true from List.any_eq_true.2 ⟨n, hmem, h5'⟩]; simp
      · have h5' : outBad n = false := by
          have h6 : (!(decide (0 ≤ n) && decide (n ≤ 3))) = false := h5
          rw [outBad]; simp at h6 ⊢; omega
        exact ⟨k + 1, ⟨⟨hkl, by omega, by rw [hnx, List.any_append, hpre, List.any_cons, h5']; rfl⟩, by omega⟩, ⟨rfl, congrArg Go.Rx.I (wrapI (by omega)), trivial⟩, ⟨[], rfl⟩, rfl, rfl⟩
    · have h4' : ¬ k ≤ 400 := by have : ¬ (k : Int) ≤ 400 := of_decide_eq_false h4
                                 omega
      refine finB ⟨?_⟩
      rw [← fin (by omega), hm]
  · have hkl : ¬ k < l.length := by have : ¬ (k : Int) < ((l.map fun n => [pI n]).length : Int) := of_decide_eq_false hlt
                                    omega
    refine finB ⟨?_⟩
    rw [← fin (by omega), hm]
theorem sagas16_con (w : Wd) (hl : w.lives.length * 200 ≤ 140737488351232) : Con P 44 [encWd w] (.lf (.own 0 (sagasL w.lives).length)) [.arr 40 9 ((sagasL w.lives).map Saga.enc)] := by
  have hsl : ∀ m : List Live, (sagasL m).length = m.length := fun m => List.length_map ..
  have hlm : (w.lives.map Live.enc).length = w.lives.length := List.length_map ..
  refine ConG.con (ConG.of T_ok Tryz.func44 rfl (by kernel_rfl) (by kernel_rfl) (aw_of T_ok (by kernel_rfl) ?_)) rfl
  conv => whnf
  refine AW.loop (fun k : Nat => k ≤ w.lives.length) (fun k => [(1, .lf (.ptr 0 0)), (3, .lf (.own 1 (sagasL (w.lives.take k)).length)), (4, Go.Rx.I k)]) (fun k => [.var w.lfs, .arr 40 9 ((sagasL (w.lives.take k)).map Saga.enc)]) (fun k => w.lives.length - k) [.slot 3 40 9] ?_ ?_
  · exact ⟨rfl, 0, Nat.zero_le _, ⟨rfl, rfl, rfl, trivial⟩, ⟨[], rfl⟩, rfl, rfl⟩
  intro k hk
  refine aw_of T_ok (by kernel_rfl) ?_
  conv => whnf
  split <;> rename_i hlt <;> conv => whnf
  · have hkl : k < w.lives.length := by have : (k : Int) < ((w.lives.map Live.enc).length : Int) := of_decide_eq_true hlt
                                        omega
    have hnx : sagasL (w.lives.take (k + 1)) = sagasL (w.lives.take k) ++ [w.lives[k].saga] := by rw [sagasL, take_succ' hkl, List.map_append]; rfl
    refine ⟨by omega, (w.lives[k]).enc, by simp [hkl], ?_⟩
    conv => whnf
    refine ⟨rfl, _, .inl rfl, ?_⟩
    conv => whnf
    have hb := hsl (w.lives.take k)
    rw [List.length_take] at hb
    refine ⟨List.length_map .., by show ((sagasL (w.lives.take k)).length + 1) * 96 ≤ _; omega, ?_⟩
    conv => whnf
    refine ⟨k + 1, ⟨hkl, by omega⟩, ⟨rfl, ?zu, congrArg Go.Rx.I (wrapI (by omega)), trivial⟩, ⟨[?zr1], ?zb⟩, rfl, rfl⟩
    case zu => rw [hnx, List.length_append]; rfl
    case zb =>
      show _ = [_, Blk.arr _ 9 ((sagasL (w.lives.take (k + 1))).map Saga.enc)] ++ [_]
      rw [hnx, List.map_append]
      rfl
  · have hkl : w.lives.take k = w.lives := List.take_of_length_le (by have : ¬ (k : Int) < ((w.lives.map Live.enc).length : Int) := of_decide_eq_false hlt
                                                                      omega)
    rw [hkl]
    exact ⟨[], [1], [.lf (.own 0 (sagasL w.lives).length)], [.lf (.own 0 (sagasL w.lives).length)], rfl, rfl, rfl, wk_refl _, rfl⟩
theorem live16_con (v : Live) (hv : v.Ok) (hs : sagaB v.saga = true) : Con P 46 [encLive v] (Bl (liveB v)) [] := by
  have hlen := hv.write.steps.len
  have ce := eqRec_con v.write zRec hlen
  have cr := rec9_con v.write hv.write
  have ca := fun h => apply9_con v.saga v.write hv.saga hv.write hs h
  have hq : live9B v = if !(decide (0 ≤ v.tries) && decide (v.tries ≤ 1073741824)) || !(decide (0 ≤ v.due) && decide (v.due ≤ 1073741832)) then false
    else if decide (v.write = zRec) then !v.put else if !(recB v.write) || v.write.kind == 1 then false else fitsL v := rfl
  rw [← live9_eq]
  obtain ⟨q, he⟩ : ∃ q, q = live9B v := ⟨_, rfl⟩
  rw [← he] at hq ⊢
  have hf : recB v.write = true → fitsL v = ((applyS v.saga v.write).2 == 0) := fun h => by
    rw [apply9_same hs h, apply9S, fitsL]
    cases h1 : v.write.id == v.saga.id with
    | false => rw [if_pos (by rw [bne, h1]; rfl)]; rfl
    | true =>
      rw [if_neg (by rw [bne, h1]; decide)]
      cases h2 : (v.saga.status == 0 && fitsB v.saga v.write) with
      | true => rfl
      | false => rfl
  generalize decide (v.write = zRec) = b1 at ce hq
  generalize recB v.write = b2 at cr ca hq hf
  generalize fitsL v = b3 at hq hf
  generalize applyS v.saga v.write = x at ca hf
  refine Con.of T_ok Tryz.func46 rfl (by kernel_rfl) (by kernel_rfl) (aw_of T_ok (by kernel_rfl) ?_)
  conv => whnf
  refine callS (numB_con v.tries 1073741824) rfl ?_
  conv => whnf
  split <;> rename_i h1 <;> conv => whnf
  · have h1' : (!(decide (0 ≤ v.tries) && decide (v.tries ≤ 1073741824))) = true := h1
    exact finB ⟨by rw [hq, h1']; rfl⟩
  have h1' : (!(decide (0 ≤ v.tries) && decide (v.tries ≤ 1073741824))) = false := h1
  refine callS (numB_con v.due 1073741832) rfl ?_
  conv => whnf
  split <;> rename_i h2 <;> conv => whnf
  · have h2' : (!(decide (0 ≤ v.due) && decide (v.due ≤ 1073741832))) = true := h2
    exact finB ⟨by rw [hq, h1', h2']; rfl⟩
  have h2' : (!(decide (0 ≤ v.due) && decide (v.due ≤ 1073741832))) = false := h2
  rw [if_neg (by rw [h1', h2']; decide)] at hq
  refine callW ce ⟨.inl rfl, .inr (.inr ⟨_, _, rfl, rfl, wkE _, wkE _, wkE _, wkE _, wkE _, wkN 6, trivial⟩), trivial⟩ rfl ?_
  conv => whnf
  cases b1 with
  | true =>
    conv => whnf
    exact finB ⟨by rw [hq]; rfl⟩
  | false =>
  rw [if_neg (by decide)] at hq
  conv => whnf
  refine callS cr rfl ?_
  conv => whnf
  cases b2 with
  | false =>
    conv => whnf
    exact finB ⟨by rw [hq]; rfl⟩
  | true =>
  conv => whnf
  split <;> rename_i h4 <;> conv => whnf
  · have h4' : (v.write.kind == 1) = true := h4
    exact finB ⟨by rw [hq, h4']; rfl⟩
  have h4' : (v.write.kind == 1) = false := h4
  rw [h4', if_neg (by decide), hf rfl] at hq
  refine callU (ca rfl) (fun _ => rfl) ?_
  conv => whnf
  exact finB ⟨hq.symm⟩
end Go.Proofs.YtfjllfjmggooeaaGreatDoor.Rx

/- The page's look at a world: the whole. -/
set_option linter.unusedVariables false
set_option linter.unusedSimpArgs false
namespace Go.Rx
def num30 (n : Int) : Bool := decide (0 ≤ n) && decide (n ≤ 1073741824)
theorem worldB_eq (w : Wd) : worldB w = (num30 w.clock && (fileB w.file && (((w.ledgers.length : Int) == 4) && (togB (sagasL w.lives) && (outsB w.outs && (num30 w.taken && (ledgersGo w.ledgers 0 && w.lives.all liveB))))))) := by
  have h1 : num30 w.clock = !(decide (w.clock < 0) || decide (1073741824 < w.clock)) := by rw [num30, Bool.eq_iff_iff]; simp
  have h2 : num30 w.taken = !(decide (w.taken < 0) || decide (1073741824 < w.taken)) := by rw [num30, Bool.eq_iff_iff]; simp
  have h3 : outsB w.outs = !(decide (400 < (w.outs.length : Int)) || w.outs.any outBad) := by
    rw [outsB]
    cases w.outs.any outBad
    · rw [Bool.not_false, Bool.and_true, Bool.or_false, Bool.eq_iff_iff]; simp
    · simp
  have h4 : w.lives.all liveB = !(w.lives.any fun v => !(liveB v)) := by simp [List.all_eq_not_any_not]
  rw [worldB, h1, h2, h3, h4, ledgersB]
  generalize decide (w.clock < 0) = a1
  generalize decide (1073741824 < w.clock) = a2
  generalize decide (w.taken < 0) = a3
  generalize decide (1073741824 < w.taken) = a4
  generalize decide (400 < (w.outs.length : Int)) = a5
  generalize w.outs.any outBad = a6
  generalize fileB w.file = a7
  generalize ledgersGo w.ledgers 0 = a8
  generalize ((w.ledgers.length : Int) == 4) = a9
  generalize togB (sagasL w.lives) = b1
  generalize (w.lives.any fun v => !(liveB v)) = b2
  cases a1 <;> cases a2 <;> cases a3 <;> cases a4 <;> cases a5 <;> cases a6 <;> cases a7 <;> cases a8 <;> cases a9 <;> cases b1 <;> cases b2 <;> rfl
end Go.Rx
namespace Go.Proofs.YtfjllfjmggooeaaGreatDoor.Rx
open Go.Rx Go.Proofs Go.Proofs.YtfjllfjmggooeaaGreatDoor.RxH
theorem world16_con (w : Wd) (hw : w.Ok) : Con P 14 [encWd w] (Bl (worldB w)) [] := by
  have hgm : (w.ledgers.map Ledger.enc).length = w.ledgers.length := List.length_map ..
  have hlm : (w.lives.map Live.enc).length = w.lives.length := List.length_map ..
  have hsm : ((sagasL w.lives).map Saga.enc).length = (sagasL w.lives).length := List.length_map ..
  have hgl := hw.gl
  have hll := hw.ll
  have cf := file9_con w.file hw.file
  have cS := sagas16_con w hw.ll
  have cs := sagas9_con (sagasL w.lives) (by rw [sagasL, List.length_map]; have := hw.ll; omega) (fun s hs => by rw [sagasL, List.mem_map] at hs; obtain ⟨v, hv, rfl⟩ := hs; exact (hw.lives v hv).saga)
  have co := outs16_con w.outs hw.ol
  have hsg : togB (sagasL w.lives) = true → ∀ v ∈ w.lives, sagaB v.saga = true := fun h v hv => tog_saga h hv
  obtain ⟨q, hq⟩ : ∃ q, q = worldB w := ⟨_, rfl⟩
  rw [← hq]
  rw [worldB_eq] at hq
  generalize fileB w.file = b1 at cf hq
  generalize togB (sagasL w.lives) = b2 at cs hsg hq
  generalize outsB w.outs = b3 at co hq
  refine Con.of T_ok Tryz.func14 rfl (by kernel_rfl) (by kernel_rfl) (aw_of T_ok (by kernel_rfl) ?_)
  conv => whnf
  refine callS (numB_con w.clock 1073741824) rfl ?_
  conv => whnf
  split <;> rename_i h1 <;> conv => whnf
  · have h1' : num30 w.clock = false := by have h2 : (!(num30 w.clock)) = true := h1; simpa using h2
    exact finB ⟨by rw [hq, h1']; rfl⟩
  have h1' : num30 w.clock = true := by have h2 : (!(num30 w.clock)) = false := h1; simpa using h2
  rw [h1', Bool.true_and] at hq
  refine callS cf rfl ?_
  conv => whnf
  cases b1 with
  | false =>
    conv => whnf
    exact finB ⟨by rw [hq]; rfl⟩
  | true =>
  rw [Bool.true_and] at hq
  conv => whnf
  split <;> rename_i h2 <;> conv => whnf
  · have h2' : ((w.ledgers.length : Int) == 4) = false := by
      have h3 : (((w.ledgers.map Ledger.enc).length : Int) != 4) = true := h2
      rw [hgm] at h3; simpa using h3
    exact finB ⟨by rw [hq, h2']; rfl⟩
  have h2' : ((w.ledgers.length : Int) == 4) = true := by
    have h3 : (((w.ledgers.map Ledger.enc).length : Int) != 4) = false := h2
    rw [hgm] at h3; simpa using h3
  have hg4 : w.ledgers.length = 4 := by have : (w.ledgers.length : Int) = 4 := eq_of_beq h2'
                                        omega
  rw [h2', Bool.true_and] at hq
  refine ⟨_, _, _, wk_refl _, cS, .inr ?_⟩
  conv => whnf
  refine ⟨hsm, ?_⟩
  conv => whnf
  refine callS cs rfl ?_
  conv => whnf
  cases b2 with
  | false =>
    conv => whnf
    exact finB ⟨by rw [hq]; rfl⟩
  | true =>
  rw [Bool.true_and] at hq
  have hsg' := hsg rfl
  conv => whnf
  refine callS co rfl ?_
  conv => whnf
  cases b3 with
  | false =>
    conv => whnf
    exact finB ⟨by rw [hq]; rfl⟩
  | true =>
  rw [Bool.true_and] at hq
  conv => whnf
  refine callS (numB_con w.taken 1073741824) rfl ?_
  conv => whnf
  split <;> rename_i h3 <;> conv => whnf
  · have h3' : num30 w.taken = false := by have h4 : (!(num30 w.taken)) = true := h3; simpa using h4
    exact finB ⟨by rw [hq, h3']; rfl⟩
  have h3' : num30 w.taken = true := by have h4 : (!(num30 w.taken)) = false := h3; simpa using h4
  rw [h3', Bool.true_and] at hq
  refine AW.loop (fun k : Nat => k ≤ w.ledgers.length ∧ q = (ledgersGo (w.ledgers.drop k) k && w.lives.all liveB)) (fun k => [(1, .lf (.ptr 0 0)), (3, Go.Rx.I k)]) (fun _ => [.var w.lfs]) (fun k => w.ledgers.length - k) [] ?_ ?_
  · exact ⟨0, ⟨Nat.zero_le _, hq⟩, ⟨rfl, rfl, trivial⟩, ⟨[_], rfl⟩, rfl, rfl⟩
  rintro k ⟨hk, hpre⟩
  refine aw_of T_ok (by kernel_rfl) ?_
  conv => whnf
  split <;> rename_i hlt <;> conv => whnf
  · have hkl : k < w.ledgers.length := by have : (k : Int) < 4 := of_decide_eq_true hlt
                                          omega
    have hrow : (w.ledgers.map Ledger.enc)[k]? = some w.ledgers[k].enc := by simp [hkl]
    have hok := hw.ledgers w.ledgers[k] (List.getElem_mem hkl)
    rw [ledg_go hkl] at hpre
    generalize w.ledgers[k] = g at hrow hok hpre
    have wk : IntKind.i64.wrap ((k : Int) + 1) = ((k + 1 : Nat) : Int) := wrapI (by omega)
    have wk' : IntKind.i64.wrap (1 + (k : Int)) = ((k + 1 : Nat) : Int) := by rw [Int.add_comm]; exact wk
    refine ⟨by omega, _, hrow, ?_⟩
    conv => whnf
    split <;> rename_i h4 <;> conv => whnf
    · have h4' : (g.service == ((k + 1 : Nat) : Int)) = false := by
        have h5 : (g.service != IntKind.i64.wrap (1 + (k : Int))) = true := h4
        rw [wk'] at h5; simpa using h5
      exact finB ⟨by rw [hpre, h4']; rfl⟩
    have h4' : (g.service == ((k + 1 : Nat) : Int)) = true := by
      have h5 : (g.service != IntKind.i64.wrap (1 + (k : Int))) = false := h4
      rw [wk'] at h5; simpa using h5
    refine ⟨by omega, _, hrow, ?_⟩
    conv => whnf
    refine callS (ledger9_con g hok) rfl ?_
    conv => whnf
    split <;> rename_i h5 <;> conv => whnf
    · have h5' : ledgerB g = false := by simpa using h5
      exact finB ⟨by rw [hpre, h4', h5']; rfl⟩
    · have h5' : ledgerB g = true := by simpa using h5
      rw [h4', h5', Bool.true_and, Bool.true_and] at hpre
      exact ⟨k + 1, ⟨⟨hkl, hpre⟩, by omega⟩, ⟨rfl, congrArg Go.Rx.I wk, trivial⟩, ⟨[], rfl⟩, rfl, rfl⟩
  · have hkl : w.ledgers.length ≤ k := by have : ¬ (k : Int) < 4 := of_decide_eq_false hlt
                                          omega
    rw [List.drop_of_length_le hkl] at hpre
    have hpre' : q = w.lives.all liveB := hpre.trans (Bool.true_and _)
    refine AW.loop (fun k : Nat => k ≤ w.lives.length ∧ q = (w.lives.drop k).all liveB) (fun k => [(1, .lf (.ptr 0 0)), (4, Go.Rx.I k)]) (fun _ => [.var w.lfs]) (fun k => w.lives.length - k) [] ?_ ?_
    · exact ⟨0, ⟨Nat.zero_le _, hpre'⟩, ⟨rfl, rfl, trivial⟩, ⟨[], rfl⟩, rfl, rfl⟩
    rintro k ⟨hk, hpre⟩
    refine aw_of T_ok (by kernel_rfl) ?_
    conv => whnf
    split <;> rename_i hlt <;> conv => whnf
    · have hkl : k < w.lives.length := by have : (k : Int) < ((w.lives.map Live.enc).length : Int) := of_decide_eq_true hlt
                                          omega
      have hrow : (w.lives.map Live.enc)[k]? = some w.lives[k].enc := by simp [hkl]
      have hok := hw.lives w.lives[k] (List.getElem_mem hkl)
      have hs1 := hsg' w.lives[k] (List.getElem_mem hkl)
      rw [List.drop_eq_getElem_cons hkl, List.all_cons] at hpre
      generalize w.lives[k] = v at hrow hok hs1 hpre
      refine ⟨by omega, _, hrow, ?_⟩
      conv => whnf
      refine callS (live16_con v hok hs1) rfl ?_
      conv => whnf
      split <;> rename_i h5 <;> conv => whnf
      · have h5' : liveB v = false := by simpa using h5
        exact finB ⟨by rw [hpre, h5']; rfl⟩
      · have h5' : liveB v = true := by simpa using h5
        rw [h5', Bool.true_and] at hpre
        exact ⟨k + 1, ⟨⟨hkl, hpre⟩, by omega⟩, ⟨rfl, congrArg Go.Rx.I (wrapI (by omega)), trivial⟩, ⟨[], rfl⟩, rfl, rfl⟩
    · have hkl : w.lives.length ≤ k := by have : ¬ (k : Int) < ((w.lives.map Live.enc).length : Int) := of_decide_eq_false hlt
                                          omega
      rw [List.drop_of_length_le hkl] at hpre
      exact finB ⟨by rw [hpre]; rfl⟩
end Go.Proofs.YtfjllfjmggooeaaGreatDoor.Rx

/- A call, and its undoing. -/
set_option linter.unusedVariables false
set_option linter.unusedSimpArgs false
namespace Go.Rx
def callL (g : Ledger) (k : Int) (op who : ByteArray) (n out : Int) : Ledger × Int × Int := if askB g k op who n out = true then doL g ⟨k, false, op, who, n⟩ false out else (zL, 0, 1)
def undoL (g : Ledger) (k of' : Int) (op who : ByteArray) (n out : Int) : Ledger × Int × Int := if askB g k op who n out = true ∧ 1 ≤ of' ∧ of' ≤ 1073741824 then doL g ⟨k, true, op, who, n⟩ (!(doneB g.entries of')) out else (zL, 0, 1)
theorem ask_sorted {g : Ledger} {k : Int} {op who : ByteArray} {n out : Int} (h : askB g k op who n out = true) : g.known.Pairwise (· < ·) := by
  rw [askB, Bool.and_eq_true] at h
  exact known_sorted (ledger_parts h.1).2.2.1
end Go.Rx
namespace Go.Proofs.YtfjllfjmggooeaaGreatDoor.Rx
open Go.Rx Go.Proofs Go.Proofs.YtfjllfjmggooeaaGreatDoor.RxH

end Go.Proofs.YtfjllfjmggooeaaGreatDoor.Rx
