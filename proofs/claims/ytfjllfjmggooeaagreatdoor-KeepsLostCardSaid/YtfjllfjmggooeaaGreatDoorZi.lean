/- The texts of the proof, part 9, in order. -/
import Derived.Test.YtfjllfjmggooeaaGreatDoorZh
import Derived.Test.YtfjllfjmggooeaaGreatDoorZg
import Derived.Test.YtfjllfjmggooeaaGreatDoorZf
/- Copies of the call's own; what a call does to a ledger. -/
set_option linter.unusedVariables false
set_option linter.unusedSimpArgs false
namespace Go.Rx
abbrev intRows (l : List Int) : List (List PV) := l.map fun n => [pI n]
def ansL (out : Int) : Int := if out = 0 then 0 else 2
def doL (g : Ledger) (x : Entry) (no : Bool) (out : Int) : Ledger × Int × Int :=
  if g.known.contains x.key = true then (g, if out = 1 then 0 else ansL out, 0)
  else if out = 1 ∨ out = 2 then (g, out, 0)
  else if 200 ≤ g.entries.length ∨ 400 ≤ g.known.length then (zL, 0, 7)
  else (⟨g.service, if no then g.entries else g.entries ++ [x], insL g.known (posL g.known x.key) x.key⟩, ansL out, 0)
theorem posL_le (l : List Int) (k : Int) : posL l k ≤ l.length := by
  unfold posL
  exact (List.takeWhile_sublist _).length_le
/-- A ledger whose rows are the call's own: blocks 0 and 1. -/
abbrev ledO (p : Ledger × Int × Int) : AV := .tup [.agg [.pv (pI p.1.service), .own 0 p.1.entries.length, .own 1 p.1.known.length], .lf (.pv (pI p.2.1)), .lf (.pv (pI p.2.2))]
end Go.Rx
namespace Go.Proofs.YtfjllfjmggooeaaGreatDoor.Rx
open Go.Rx Go.Proofs Go.Proofs.YtfjllfjmggooeaaGreatDoor.RxH

abbrev nbO (g : Ledger) : List Blk := [.arr 102 5 (g.entries.map Entry.enc), .arr 3 1 (intRows g.known)]
theorem cloneE_con (l : List Entry) (hl : l.length * 56 ≤ 140737488351232) : Con P 126 [.lf (.pv (encEntries l))] (.lf (.own 0 l.length)) [.arr 102 5 (l.map Entry.enc)] := by
  have hm : (l.map Entry.enc).length = l.length := List.length_map ..
  refine ConG.con (ConG.of T_ok Tryz.func126 rfl (by kernel_rfl) (by kernel_rfl) (aw_ofC T_ok 2001 (by kernel_rfl) ?_)) rfl
  conv => whnf
  refine AW.seq (AW.nilTest T_ok rfl rfl (by decide) ?_ ?_) fun sl bk h => aw_of T_ok (by kernel_rfl) h
  · intro h0
    conv => whnf
    have hl0 : l = [] := by simpa using h0
    subst hl0
    exact ⟨[.slot 2 102 5], rfl, [0], [.lf (.own 0 0)], [.lf (.own 0 0)], rfl, rfl, rfl, wk_refl _, rfl⟩
  · conv => whnf
    refine ⟨_, .inl rfl, ?_⟩
    conv => whnf
    refine ⟨rfl, by show (0 + (l.map Entry.enc).length) * 56 ≤ _; omega, ?_⟩
    conv => whnf
    refine ⟨[], [0], [.lf (.own 0 l.length)], [.lf (.own 0 l.length)], rfl, rfl, ?_, wk_refl _, rfl⟩
    show some [AV.lf (.own 0 (0 + (l.map Entry.enc).length))] = _
    rw [hm, Nat.zero_add]
theorem cloneI_con (l : List Int) (hl : l.length * 8 ≤ 140737488351232) : Con P 66 [.lf (.pv (encInts l))] (.lf (.own 0 l.length)) [.arr 3 1 (intRows l)] := by
  have hm : (intRows l).length = l.length := List.length_map ..
  refine ConG.con (ConG.of T_ok Tryz.func66 rfl (by kernel_rfl) (by kernel_rfl) (aw_ofC T_ok 2001 (by kernel_rfl) ?_)) rfl
  conv => whnf
  refine AW.seq (AW.nilTest T_ok rfl rfl (by decide) ?_ ?_) fun sl bk h => aw_of T_ok (by kernel_rfl) h
  · intro h0
    conv => whnf
    have hl0 : l = [] := by simpa using h0
    subst hl0
    exact ⟨[.slot 2 3 1], rfl, [0], [.lf (.own 0 0)], [.lf (.own 0 0)], rfl, rfl, rfl, wk_refl _, rfl⟩
  · conv => whnf
    refine ⟨_, .inl rfl, ?_⟩
    conv => whnf
    refine ⟨rfl, by show (0 + (intRows l).length) * 8 ≤ _; omega, ?_⟩
    conv => whnf
    refine ⟨[], [0], [.lf (.own 0 l.length)], [.lf (.own 0 l.length)], rfl, rfl, ?_, wk_refl _, rfl⟩
    show some [AV.lf (.own 0 (0 + (intRows l).length))] = _
    rw [hm, Nat.zero_add]
theorem ownL_con (g : Ledger) (h : g.Ok) : Con P 95 [encLedger g] (.agg [.pv (pI g.service), .own 0 g.entries.length, .own 1 g.known.length]) (nbO g) := by
  refine ConG.con (ConG.of T_ok Tryz.func95 rfl (by kernel_rfl) (by kernel_rfl) (aw_of T_ok (by kernel_rfl) ?_)) rfl
  conv => whnf
  refine AW.draw T_ok rfl (listPl [0, 1, 3, 4, 2, 6, 5, 7, 8, 9]) (by kernel_rfl) (by kernel_rfl) ?_
  conv => whnf
  refine ⟨_, _, _, wk_refl _, cloneE_con g.entries h.el, .inr ?_⟩
  conv => whnf
  refine ⟨_, _, _, wk_refl _, cloneI_con g.known h.kl, .inr ?_⟩
  conv => whnf
  exact ⟨[], [2, 3], [.agg [.pv (pI g.service), .own 0 g.entries.length, .own 1 g.known.length]], [.agg [.pv (pI g.service), .own 0 g.entries.length, .own 1 g.known.length]], rfl, rfl, rfl, wk_refl _, rfl⟩
set_option maxHeartbeats 2000000 in
theorem doT_con (g : Ledger) (h : g.Ok) (hs : g.known.Pairwise (· < ·)) (x : Entry) (out : Int) : Con P 173 [encLedger g, encEntry x, Bl true, I out] (ledO (doL g x true out)) (nbO (doL g x true out).1) := by
  have hel := h.el
  have hkl := h.kl
  obtain ⟨d, hd⟩ : ∃ d, d = doL g x true out := ⟨_, rfl⟩
  rw [← hd]
  refine ConG.con (ConG.of T_ok Tryz.func173 rfl (by kernel_rfl) (by kernel_rfl) (aw_of T_ok (by kernel_rfl) ?_)) rfl
  conv => whnf
  refine ⟨_, _, _, wk_refl _, ownL_con g h, .inr ?_⟩
  conv => whnf
  have hle : (g.entries.map Entry.enc).length = g.entries.length := List.length_map ..
  have hlk : (intRows g.known).length = g.known.length := List.length_map ..
  have cb := binarySearch_con g.known x.key h.kl hs
  obtain ⟨ps, hps⟩ : ∃ ps, ps = posL g.known x.key := ⟨_, rfl⟩
  obtain ⟨nk, hnk⟩ : ∃ nk, nk = insL g.known ps x.key := ⟨_, rfl⟩
  have hpl : ps ≤ g.known.length := by rw [hps]; exact posL_le _ _
  have hil : nk.length = g.known.length + 1 := by rw [hnk]; exact ins_len hpl
  have ci : (g.known.length + 1) * 8 ≤ 140737488355328 → ConG P 197 [.arr 3 1 (intRows g.known), .arr 3 1 [[pI x.key]]] [.lf (.own 0 g.known.length), Go.Rx.I ps, .lf (.own 1 1)] (.lf (.own 0 (g.known.length + 1))) [.arr 3 1 (intRows nk), .arr 3 1 [[pI x.key]]] := fun hb => by
    rw [hnk]; exact insert_con g.known ps x.key hpl hb
  rw [← hps] at cb
  refine ⟨hlk, ?_⟩
  conv => whnf
  cases hc : g.known.contains x.key with
  | true =>
    rw [hc] at cb
    refine callS cb rfl ?_
    conv => whnf
    split <;> rename_i h1 <;> conv => whnf
    · have h1' : out = 1 := eq_of_beq h1
      have hd2 : d = (g, 0, 0) := hd.trans (by rw [doL, if_pos hc, if_pos h1'])
      subst hd2
      exact ⟨[], [3, 4], [.agg [.pv (pI g.service), .own 0 g.entries.length, .own 1 g.known.length], Go.Rx.I 0, Go.Rx.I 0], [.agg [.pv (pI g.service), .own 0 g.entries.length, .own 1 g.known.length], Go.Rx.I 0, Go.Rx.I 0], rfl, rfl, rfl, wk_refl _, rfl⟩
    have h1' : ¬ out = 1 := fun e => by rw [show (out == 1) = true from beq_iff_eq.2 e] at h1; cases h1
    split <;> rename_i h2 <;> conv => whnf
    · have h2' : ¬ out = 0 := by have h3 : (out != 0) = true := h2; simpa using h3
      have hd2 : d = (g, 2, 0) := hd.trans (by rw [doL, if_pos hc, if_neg h1', ansL, if_neg h2'])
      subst hd2
      exact ⟨[], [3, 4], [.agg [.pv (pI g.service), .own 0 g.entries.length, .own 1 g.known.length], Go.Rx.I 2, Go.Rx.I 0], [.agg [.pv (pI g.service), .own 0 g.entries.length, .own 1 g.known.length], Go.Rx.I 2, Go.Rx.I 0], rfl, rfl, rfl, wk_refl _, rfl⟩
    · have h2' : out = 0 := by have h3 : (out != 0) = false := h2; simpa using h3
      have hd2 : d = (g, 0, 0) := hd.trans (by rw [doL, if_pos hc, if_neg h1', ansL, if_pos h2'])
      subst hd2
      exact ⟨[], [3, 4], [.agg [.pv (pI g.service), .own 0 g.entries.length, .own 1 g.known.length], Go.Rx.I 0, Go.Rx.I 0], [.agg [.pv (pI g.service), .own 0 g.entries.length, .own 1 g.known.length], Go.Rx.I 0, Go.Rx.I 0], rfl, rfl, rfl, wk_refl _, rfl⟩
  | false =>
    rw [hc] at cb
    have hc' : ¬ g.known.contains x.key = true := by rw [hc]; decide
    have refused : out = 1 ∨ out = 2 → doL g x true out = (g, out, 0) := fun e => by rw [doL, if_neg hc', if_pos e]
    refine callS cb rfl ?_
    conv => whnf
    split <;> rename_i h1 <;> conv => whnf
    · have hd2 := hd.trans (refused (.inl (eq_of_beq h1)))
      subst hd2
      exact ⟨[], [3, 4], [.agg [.pv (pI g.service), .own 0 g.entries.length, .own 1 g.known.length], Go.Rx.I out, Go.Rx.I 0], [.agg [.pv (pI g.service), .own 0 g.entries.length, .own 1 g.known.length], Go.Rx.I out, Go.Rx.I 0], rfl, rfl, rfl, wk_refl _, rfl⟩
    have h1' : ¬ out = 1 := fun e => by rw [show (out == 1) = true from beq_iff_eq.2 e] at h1; cases h1
    split <;> rename_i h2 <;> conv => whnf
    · have hd2 := hd.trans (refused (.inr (eq_of_beq h2)))
      subst hd2
      exact ⟨[], [3, 4], [.agg [.pv (pI g.service), .own 0 g.entries.length, .own 1 g.known.length], Go.Rx.I out, Go.Rx.I 0], [.agg [.pv (pI g.service), .own 0 g.entries.length, .own 1 g.known.length], Go.Rx.I out, Go.Rx.I 0], rfl, rfl, rfl, wk_refl _, rfl⟩
    have h2' : ¬ out = 2 := fun e => by rw [show (out == 2) = true from beq_iff_eq.2 e] at h2; cases h2
    have full : 200 ≤ g.entries.length ∨ 400 ≤ g.known.length → doL g x true out = (zL, 0, 7) := fun e => by rw [doL, if_neg hc', if_neg (by omega), if_pos e]
    refine ⟨hle, ?_⟩
    conv => whnf
    split <;> rename_i h3 <;> conv => whnf
    · have hd2 := hd.trans (full (.inl (by have := of_decide_eq_true h3; omega)))
      subst hd2
      exact ⟨[.cell 2 1 102 5, .cell 2 2 3 1], ⟨rfl, rfl, [5, 6], [.agg [.pv (pI 0), .own 0 0, .own 1 0], Go.Rx.I 0, Go.Rx.I 7], [.agg [.pv (pI 0), .own 0 0, .own 1 0], Go.Rx.I 0, Go.Rx.I 7], rfl, rfl, rfl, wk_refl _, rfl⟩⟩
    have h3' : g.entries.length < 200 := by have := of_decide_eq_false h3; omega
    refine ⟨hlk, ?_⟩
    conv => whnf
    split <;> rename_i h4 <;> conv => whnf
    · have hd2 := hd.trans (full (.inr (by have := of_decide_eq_true h4; omega)))
      subst hd2
      exact ⟨[.cell 2 1 102 5, .cell 2 2 3 1], ⟨rfl, rfl, [5, 6], [.agg [.pv (pI 0), .own 0 0, .own 1 0], Go.Rx.I 0, Go.Rx.I 7], [.agg [.pv (pI 0), .own 0 0, .own 1 0], Go.Rx.I 0, Go.Rx.I 7], rfl, rfl, rfl, wk_refl _, rfl⟩⟩
    have h4' : g.known.length < 400 := by have := of_decide_eq_false h4; omega
    refine ⟨[4, 5], _, _, _, _, _, nodupB_ok rfl, rfl, rfl, wk_refl _, ci (by omega), ?_⟩
    conv => whnf
    have hel2 : (g.entries ++ [x]).length = g.entries.length + 1 := by simp
    have goes : doL g x true out = (⟨g.service, if true then g.entries else g.entries ++ [x], nk⟩, ansL out, 0) := by rw [hnk, hps, doL, if_neg hc', if_neg (by omega), if_neg (by omega)]
    split <;> rename_i h5 <;> conv => whnf
    · have h5' : ¬ out = 0 := by have h6 : (out != 0) = true := h5; simpa using h6
      have hd2 : d = (⟨g.service, g.entries, nk⟩, 2, 0) := hd.trans (by rw [goes, ansL, if_neg h5']; rfl)
      subst hd2
      refine ⟨[], [3, 4], [.agg [.pv (pI g.service), .own 0 g.entries.length, .own 1 nk.length], Go.Rx.I 2, Go.Rx.I 0], [.agg [.pv (pI g.service), .own 0 g.entries.length, .own 1 nk.length], Go.Rx.I 2, Go.Rx.I 0], rfl, rfl, ?_, wk_refl _, rfl⟩
      show some [AV.agg [.pv (pI g.service), .own 0 g.entries.length, .own 1 (g.known.length + 1)], Go.Rx.I 2, Go.Rx.I 0] = _
      rw [hil]
    · have h5' : out = 0 := by have h6 : (out != 0) = false := h5; simpa using h6
      have hd2 : d = (⟨g.service, g.entries, nk⟩, 0, 0) := hd.trans (by rw [goes, ansL, if_pos h5']; rfl)
      subst hd2
      refine ⟨[], [3, 4], [.agg [.pv (pI g.service), .own 0 g.entries.length, .own 1 nk.length], Go.Rx.I 0, Go.Rx.I 0], [.agg [.pv (pI g.service), .own 0 g.entries.length, .own 1 nk.length], Go.Rx.I 0, Go.Rx.I 0], rfl, rfl, ?_, wk_refl _, rfl⟩
      show some [AV.agg [.pv (pI g.service), .own 0 g.entries.length, .own 1 (g.known.length + 1)], Go.Rx.I 0, Go.Rx.I 0] = _
      rw [hil]
set_option maxHeartbeats 2000000 in
theorem doF_con (g : Ledger) (h : g.Ok) (hs : g.known.Pairwise (· < ·)) (x : Entry) (out : Int) : Con P 173 [encLedger g, encEntry x, Bl false, I out] (ledO (doL g x false out)) (nbO (doL g x false out).1) := by
  have hel := h.el
  have hkl := h.kl
  obtain ⟨d, hd⟩ : ∃ d, d = doL g x false out := ⟨_, rfl⟩
  rw [← hd]
  refine ConG.con (ConG.of T_ok Tryz.func173 rfl (by kernel_rfl) (by kernel_rfl) (aw_of T_ok (by kernel_rfl) ?_)) rfl
  conv => whnf
  refine ⟨_, _, _, wk_refl _, ownL_con g h, .inr ?_⟩
  conv => whnf
  have hle : (g.entries.map Entry.enc).length = g.entries.length := List.length_map ..
  have hlk : (intRows g.known).length = g.known.length := List.length_map ..
  have cb := binarySearch_con g.known x.key h.kl hs
  obtain ⟨ps, hps⟩ : ∃ ps, ps = posL g.known x.key := ⟨_, rfl⟩
  obtain ⟨nk, hnk⟩ : ∃ nk, nk = insL g.known ps x.key := ⟨_, rfl⟩
  have hpl : ps ≤ g.known.length := by rw [hps]; exact posL_le _ _
  have hil : nk.length = g.known.length + 1 := by rw [hnk]; exact ins_len hpl
  have ci : (g.known.length + 1) * 8 ≤ 140737488355328 → ConG P 197 [.arr 3 1 (intRows g.known), .arr 3 1 [[pI x.key]]] [.lf (.own 0 g.known.length), Go.Rx.I ps, .lf (.own 1 1)] (.lf (.own 0 (g.known.length + 1))) [.arr 3 1 (intRows nk), .arr 3 1 [[pI x.key]]] := fun hb => by
    rw [hnk]; exact insert_con g.known ps x.key hpl hb
  rw [← hps] at cb
  refine ⟨hlk, ?_⟩
  conv => whnf
  cases hc : g.known.contains x.key with
  | true =>
    rw [hc] at cb
    refine callS cb rfl ?_
    conv => whnf
    split <;> rename_i h1 <;> conv => whnf
    · have h1' : out = 1 := eq_of_beq h1
      have hd2 : d = (g, 0, 0) := hd.trans (by rw [doL, if_pos hc, if_pos h1'])
      subst hd2
      exact ⟨[], [3, 4], [.agg [.pv (pI g.service), .own 0 g.entries.length, .own 1 g.known.length], Go.Rx.I 0, Go.Rx.I 0], [.agg [.pv (pI g.service), .own 0 g.entries.length, .own 1 g.known.length], Go.Rx.I 0, Go.Rx.I 0], rfl, rfl, rfl, wk_refl _, rfl⟩
    have h1' : ¬ out = 1 := fun e => by rw [show (out == 1) = true from beq_iff_eq.2 e] at h1; cases h1
    split <;> rename_i h2 <;> conv => whnf
    · have h2' : ¬ out = 0 := by have h3 : (out != 0) = true := h2; simpa using h3
      have hd2 : d = (g, 2, 0) := hd.trans (by rw [doL, if_pos hc, if_neg h1', ansL, if_neg h2'])
      subst hd2
      exact ⟨[], [3, 4], [.agg [.pv (pI g.service), .own 0 g.entries.length, .own 1 g.known.length], Go.Rx.I 2, Go.Rx.I 0], [.agg [.pv (pI g.service), .own 0 g.entries.length, .own 1 g.known.length], Go.Rx.I 2, Go.Rx.I 0], rfl, rfl, rfl, wk_refl _, rfl⟩
    · have h2' : out = 0 := by have h3 : (out != 0) = false := h2; simpa using h3
      have hd2 : d = (g, 0, 0) := hd.trans (by rw [doL, if_pos hc, if_neg h1', ansL, if_pos h2'])
      subst hd2
      exact ⟨[], [3, 4], [.agg [.pv (pI g.service), .own 0 g.entries.length, .own 1 g.known.length], Go.Rx.I 0, Go.Rx.I 0], [.agg [.pv (pI g.service), .own 0 g.entries.length, .own 1 g.known.length], Go.Rx.I 0, Go.Rx.I 0], rfl, rfl, rfl, wk_refl _, rfl⟩
  | false =>
    rw [hc] at cb
    have hc' : ¬ g.known.contains x.key = true := by rw [hc]; decide
    have refused : out = 1 ∨ out = 2 → doL g x false out = (g, out, 0) := fun e => by rw [doL, if_neg hc', if_pos e]
    refine callS cb rfl ?_
    conv => whnf
    split <;> rename_i h1 <;> conv => whnf
    · have hd2 := hd.trans (refused (.inl (eq_of_beq h1)))
      subst hd2
      exact ⟨[], [3, 4], [.agg [.pv (pI g.service), .own 0 g.entries.length, .own 1 g.known.length], Go.Rx.I out, Go.Rx.I 0], [.agg [.pv (pI g.service), .own 0 g.entries.length, .own 1 g.known.length], Go.Rx.I out, Go.Rx.I 0], rfl, rfl, rfl, wk_refl _, rfl⟩
    have h1' : ¬ out = 1 := fun e => by rw [show (out == 1) = true from beq_iff_eq.2 e] at h1; cases h1
    split <;> rename_i h2 <;> conv => whnf
    · have hd2 := hd.trans (refused (.inr (eq_of_beq h2)))
      subst hd2
      exact ⟨[], [3, 4], [.agg [.pv (pI g.service), .own 0 g.entries.length, .own 1 g.known.length], Go.Rx.I out, Go.Rx.I 0], [.agg [.pv (pI g.service), .own 0 g.entries.length, .own 1 g.known.length], Go.Rx.I out, Go.Rx.I 0], rfl, rfl, rfl, wk_refl _, rfl⟩
    have h2' : ¬ out = 2 := fun e => by rw [show (out == 2) = true from beq_iff_eq.2 e] at h2; cases h2
    have full : 200 ≤ g.entries.length ∨ 400 ≤ g.known.length → doL g x false out = (zL, 0, 7) := fun e => by rw [doL, if_neg hc', if_neg (by omega), if_pos e]
    refine ⟨hle, ?_⟩
    conv => whnf
    split <;> rename_i h3 <;> conv => whnf
    · have hd2 := hd.trans (full (.inl (by have := of_decide_eq_true h3; omega)))
      subst hd2
      exact ⟨[.cell 2 1 102 5, .cell 2 2 3 1], ⟨rfl, rfl, [5, 6], [.agg [.pv (pI 0), .own 0 0, .own 1 0], Go.Rx.I 0, Go.Rx.I 7], [.agg [.pv (pI 0), .own 0 0, .own 1 0], Go.Rx.I 0, Go.Rx.I 7], rfl, rfl, rfl, wk_refl _, rfl⟩⟩
    have h3' : g.entries.length < 200 := by have := of_decide_eq_false h3; omega
    refine ⟨hlk, ?_⟩
    conv => whnf
    split <;> rename_i h4 <;> conv => whnf
    · have hd2 := hd.trans (full (.inr (by have := of_decide_eq_true h4; omega)))
      subst hd2
      exact ⟨[.cell 2 1 102 5, .cell 2 2 3 1], ⟨rfl, rfl, [5, 6], [.agg [.pv (pI 0), .own 0 0, .own 1 0], Go.Rx.I 0, Go.Rx.I 7], [.agg [.pv (pI 0), .own 0 0, .own 1 0], Go.Rx.I 0, Go.Rx.I 7], rfl, rfl, rfl, wk_refl _, rfl⟩⟩
    have h4' : g.known.length < 400 := by have := of_decide_eq_false h4; omega
    refine ⟨[4, 5], _, _, _, _, _, nodupB_ok rfl, rfl, rfl, wk_refl _, ci (by omega), ?_⟩
    conv => whnf
    have hel2 : (g.entries ++ [x]).length = g.entries.length + 1 := by simp
    have goes : doL g x false out = (⟨g.service, if false then g.entries else g.entries ++ [x], nk⟩, ansL out, 0) := by rw [hnk, hps, doL, if_neg hc', if_neg (by omega), if_neg (by omega)]
    refine ⟨rfl, _, .inl rfl, ?_⟩
    conv => whnf
    refine ⟨hle, by show (g.entries.length + 1) * 56 ≤ _; omega, ?_⟩
    conv => whnf
    split <;> rename_i h5 <;> conv => whnf
    · have h5' : ¬ out = 0 := by have h6 : (out != 0) = true := h5; simpa using h6
      have hd2 : d = (⟨g.service, g.entries ++ [x], nk⟩, 2, 0) := hd.trans (by rw [goes, ansL, if_neg h5']; rfl)
      subst hd2
      refine ⟨[], [3, 4], [.agg [.pv (pI g.service), .own 0 (g.entries ++ [x]).length, .own 1 nk.length], Go.Rx.I 2, Go.Rx.I 0], [.agg [.pv (pI g.service), .own 0 (g.entries ++ [x]).length, .own 1 nk.length], Go.Rx.I 2, Go.Rx.I 0], rfl, ?p1, ?p2, wk_refl _, rfl⟩
      case p1 => show some [Blk.arr _ 5 (g.entries.map Entry.enc ++ [x.enc]), Blk.arr _ 1 (intRows nk)] = some (nbO ⟨g.service, g.entries ++ [x], _⟩); rw [nbO, List.map_append]; rfl
      case p2 => show some [AV.agg [.pv (pI g.service), .own 0 (g.entries.length + 1), .own 1 (g.known.length + 1)], Go.Rx.I 2, Go.Rx.I 0] = _; rw [hil, hel2]
    · have h5' : out = 0 := by have h6 : (out != 0) = false := h5; simpa using h6
      have hd2 : d = (⟨g.service, g.entries ++ [x], nk⟩, 0, 0) := hd.trans (by rw [goes, ansL, if_pos h5']; rfl)
      subst hd2
      refine ⟨[], [3, 4], [.agg [.pv (pI g.service), .own 0 (g.entries ++ [x]).length, .own 1 nk.length], Go.Rx.I 0, Go.Rx.I 0], [.agg [.pv (pI g.service), .own 0 (g.entries ++ [x]).length, .own 1 nk.length], Go.Rx.I 0, Go.Rx.I 0], rfl, ?q1, ?q2, wk_refl _, rfl⟩
      case q1 => show some [Blk.arr _ 5 (g.entries.map Entry.enc ++ [x.enc]), Blk.arr _ 1 (intRows nk)] = some (nbO ⟨g.service, g.entries ++ [x], _⟩); rw [nbO, List.map_append]; rfl
      case q2 => show some [AV.agg [.pv (pI g.service), .own 0 (g.entries.length + 1), .own 1 (g.known.length + 1)], Go.Rx.I 0, Go.Rx.I 0] = _; rw [hil, hel2]
theorem do_con (g : Ledger) (h : g.Ok) (hs : g.known.Pairwise (· < ·)) (x : Entry) (no : Bool) (out : Int) : Con P 173 [encLedger g, encEntry x, Bl no, I out] (ledO (doL g x no out)) (nbO (doL g x no out).1) := by
  cases no
  · exact doF_con g h hs x out
  · exact doT_con g h hs x out
end Go.Proofs.YtfjllfjmggooeaaGreatDoor.Rx

/- Worlds: data, and what a step makes of one, plain. -/
set_option linter.unusedVariables false
set_option linter.unusedSimpArgs false
namespace Go.Rx
structure Live where
  saga : Saga
  tries : Int
  due : Int
  write : Rec
  put : Bool
abbrev Live.enc (v : Live) : List PV := [pI v.saga.id, pS v.saga.key, pS v.saga.body, encSteps v.saga.steps, pI v.saga.done, pB v.saga.out, pB v.saga.back, pI v.saga.left, pI v.saga.status, pI v.tries, pI v.due,
  pI v.write.kind, pI v.write.id, pI v.write.n, pS v.write.key, pS v.write.body, encSteps v.write.steps, pB v.put]
abbrev Live.lfs (v : Live) : List Lf := [.pv (pI v.saga.id), .pv (pS v.saga.key), .pv (pS v.saga.body), .pv (encSteps v.saga.steps), .pv (pI v.saga.done), .pv (pB v.saga.out), .pv (pB v.saga.back), .pv (pI v.saga.left), .pv (pI v.saga.status), .pv (pI v.tries), .pv (pI v.due),
  .pv (pI v.write.kind), .pv (pI v.write.id), .pv (pI v.write.n), .pv (pS v.write.key), .pv (pS v.write.body), .pv (encSteps v.write.steps), .pv (pB v.put)]
abbrev encLive (v : Live) : AV := .agg v.lfs
structure Wd where
  clock : Int
  file : FileS
  ledgers : List Ledger
  lives : List Live
  outs : List Int
  taken : Int
abbrev encLedgers (l : List Ledger) : PV := .sl 3 (l.map Ledger.enc)
abbrev encLives (l : List Live) : PV := .sl 18 (l.map Live.enc)
abbrev Wd.lfs (w : Wd) : List Lf := [.pv (pI w.clock), .pv (pS w.file.safe), .pv (pS w.file.tail), .pv (pI w.file.cap), .pv (encLedgers w.ledgers), .pv (encLives w.lives), .pv (encInts w.outs), .pv (pI w.taken)]
abbrev encWd (w : Wd) : AV := .agg w.lfs
/-- A world whose slices are the call's own: the blocks n, n + 1, n + 2. -/
abbrev Wd.own (n : Nat) (w : Wd) : List Lf := [.pv (pI w.clock), .pv (pS w.file.safe), .pv (pS w.file.tail), .pv (pI w.file.cap), .own n w.ledgers.length, .own (n + 1) w.lives.length, .own (n + 2) w.outs.length, .pv (pI w.taken)]
def zRec : Rec := ⟨0, 0, 0, ⟨#[]⟩, ⟨#[]⟩, []⟩
def nothingB (r : Rec) : Bool := r.kind == 0 && (r.id == 0 && (r.n == 0 && (r.key == ⟨#[]⟩ && (r.body == ⟨#[]⟩ && ((r.steps.length : Int) == 0)))))
def fitsL (v : Live) : Bool := v.write.id == v.saga.id && (v.saga.status == 0 && fitsB v.saga v.write)
def liveB (v : Live) : Bool :=
  if decide (v.tries < 0) || (decide (1073741824 < v.tries) || (decide (v.due < 0) || decide (1073741832 < v.due))) then false
  else if nothingB v.write then !v.put else v.write.kind != 1 && (recB v.write && fitsL v)
def sagasL (l : List Live) : List Saga := l.map Live.saga
def ledgersGo : List Ledger → Nat → Bool
  | [], _ => true
  | g :: l, i => (g.service == ((i + 1 : Nat) : Int) && ledgerB g) && ledgersGo l (i + 1)
def ledgersB (l : List Ledger) : Bool := ledgersGo l 0 && ((l.length : Int) == 4)
def outBad (n : Int) : Bool := decide (n < 0) || decide (3 < n)
def worldB (w : Wd) : Bool :=
  if decide (w.clock < 0) || (decide (1073741824 < w.clock) || (decide (w.taken < 0) || (decide (1073741824 < w.taken) || (decide (400 < (w.outs.length : Int)) || w.outs.any outBad)))) then false
  else if !(fileB w.file) || (!(ledgersB w.ledgers) || !(togB (sagasL w.lives))) then false
  else !(w.lives.any fun v => !(liveB v))
/-! ### A step -/
def longGo : Nat → Int → Int
  | 0, n => n
  | k + 1, n => longGo k (if 8 < IntKind.i64.wrap (2 * n) then 8 else IntKind.i64.wrap (2 * n))
def longI (t : Int) : Int := longGo ((if 8 < t then 8 else t) - 1).toNat 1
def outW (w : Wd) : Int := if w.taken < w.outs.length then (w.outs[w.taken.toNat]?).getD 0 else 0
def callKey (id i : Int) : Int := IntKind.i64.wrap (IntKind.i64.wrap (id * 100) + IntKind.i64.wrap (2 * i))
def undoKey (id i : Int) : Int := IntKind.i64.wrap (callKey id i + 1)
def stepI (s : Saga) : Int := if s.back then IntKind.i64.wrap (s.left - 1) else s.done
def zStep : Step := ⟨⟨#[]⟩, 0, ⟨#[]⟩, ⟨#[]⟩, ⟨#[]⟩, 0⟩
def stepAt (s : Saga) : Step := (s.steps[(stepI s).toNat]?).getD zStep
def entryW (s : Saga) : Entry := if s.back then ⟨undoKey s.id (stepI s), true, (stepAt s).undo, (stepAt s).who, (stepAt s).n⟩ else ⟨callKey s.id (stepI s), false, (stepAt s).op, (stepAt s).who, (stepAt s).n⟩
def ledgAt (w : Wd) (s : Saga) : Ledger := (w.ledgers[((stepAt s).service - 1).toNat]?).getD zL
def noneAt (w : Wd) (s : Saga) : Bool := s.back && !(doneB (ledgAt w s).entries (callKey s.id (stepI s)))
def doneAt (w : Wd) (s : Saga) : Ledger × Int × Int := doL (ledgAt w s) (entryW s) (noneAt w s) (outW w)
def calledW (w : Wd) (s : Saga) : Wd := { w with ledgers := w.ledgers.set ((stepAt s).service - 1).toNat (doneAt w s).1, taken := IntKind.i64.wrap (w.taken + 1) }
/-- The record that an answer leads to (none: one waits), and the live behind it. -/
def answeredL (c : Int) (v : Live) (a : Int) : Live × Rec × Bool :=
  let s := v.saga
  if a = 2 then
    (if s.back || decide (IntKind.i64.wrap (v.tries + 1) < 4) then ({ v with tries := IntKind.i64.wrap (v.tries + 1), due := IntKind.i64.wrap (c + longI (IntKind.i64.wrap (v.tries + 1))) }, zRec, false)
     else ({ v with tries := IntKind.i64.wrap (v.tries + 1) }, { zRec with kind := 4, id := s.id }, true))
  else if a = 1 ∧ s.back = false then (v, { zRec with kind := 4, id := s.id }, true)
  else if a = 1 then (v, { zRec with kind := 6, id := s.id, n := 3 }, true)
  else if s.back then (v, { zRec with kind := 5, id := s.id, n := IntKind.i64.wrap (s.left - 1) }, true)
  else (v, { zRec with kind := 3, id := s.id, n := s.done }, true)
/-- What comes next of a live: the world, the live, the error. -/
def nextW (w : Wd) (v : Live) : Wd × Live × Int :=
  let s := v.saga
  if !s.back && (s.done == (s.steps.length : Int)) then (w, { v with write := { zRec with kind := 6, id := s.id, n := 1 } }, 0)
  else if s.back && (s.left == 0) then (w, { v with write := { zRec with kind := 6, id := s.id, n := 2 } }, 0)
  else if !s.back && !s.out then (w, { v with write := { zRec with kind := 2, id := s.id, n := s.done } }, 0)
  else if (doneAt w s).2.2 = 0 then (calledW w s, (if (answeredL w.clock v (doneAt w s).2.1).2.2 then { (answeredL w.clock v (doneAt w s).2.1).1 with write := (answeredL w.clock v (doneAt w s).2.1).2.1 } else (answeredL w.clock v (doneAt w s).2.1).1), 0)
  else (w, v, (doneAt w s).2.2)
def writtenW (w : Wd) (v : Live) : Wd × Live × Int :=
  if v.put then ({ w with file := (crashP w.file w.file.tail.size).1 }, ⟨nextS v.saga v.write, 0, w.clock, zRec, false⟩, 0)
  else if (jappP w.file v.write).2 = 0 then ({ w with file := (jappP w.file v.write).1 }, { v with put := true }, 0)
  else (w, v, (jappP w.file v.write).2)
def moveW (w : Wd) (v : Live) : Wd × Live × Int := if v.write.kind != 0 then writtenW w v else nextW w v
def dueB (c : Int) (v : Live) : Bool := v.saga.status == 0 && (v.write.kind != 0 || !(decide (c < v.due)))
/-- Which live goes on: the first that may. -/
def dueGo (c : Int) : List Live → Nat → Option Nat
  | [], _ => none
  | v :: l, k => if dueB c v then some k else dueGo c l (k + 1)
def dueI (w : Wd) : Option Nat := dueGo w.clock w.lives 0
def stepW (w : Wd) : Wd × Int :=
  match dueI w with
  | none => (w, 3)
  | some i => match w.lives[i]? with
    | none => (w, 3)
    | some v => if (moveW w v).2.2 = 0 then ({ (moveW w v).1 with lives := w.lives.set i (moveW w v).2.1 }, 0) else (w, (moveW w v).2.2)
def goW : Nat → Wd → Wd × Nat
  | 0, w => (w, 0)
  | k + 1, w => if (stepW w).2 = 0 then ((goW k (stepW w).1).1, (goW k (stepW w).1).2 + 1) else (w, 0)
end Go.Rx

/- May a world be? -/
set_option linter.unusedVariables false
set_option linter.unusedSimpArgs false
namespace Go.Rx
structure Live.Ok (v : Live) : Prop where
  saga : v.saga.Ok
  write : v.write.Ok
structure Wd.Ok (w : Wd) : Prop where
  file : w.file.Ok
  gl : w.ledgers.length * 56 ≤ 140737488351232
  ll : w.lives.length * 200 ≤ 140737488351232
  ol : w.outs.length * 8 ≤ 140737488351232
  ledgers : ∀ g ∈ w.ledgers, g.Ok
  lives : ∀ v ∈ w.lives, v.Ok
end Go.Rx
namespace Go.Proofs.YtfjllfjmggooeaaGreatDoor.Rx
open Go.Rx Go.Proofs Go.Proofs.YtfjllfjmggooeaaGreatDoor.RxH
theorem nothing_con (r : Rec) : Con P 123 [encRec r] (Bl (nothingB r)) [] := by
  refine Con.of T_ok Tryz.func123 rfl (by kernel_rfl) (by kernel_rfl) (aw_of T_ok (by kernel_rfl) ?_)
  conv => whnf
  have hm : (r.steps.map Step.enc).length = r.steps.length := List.length_map ..
  split <;> rename_i h1 <;> conv => whnf
  rotate_left
  · exact finB ⟨by rw [nothingB, show (r.kind == 0) = false from h1]; rfl⟩
  split <;> rename_i h2 <;> conv => whnf
  rotate_left
  · exact finB ⟨by rw [nothingB, show (r.kind == 0) = true from h1, show (r.id == 0) = false from h2]; rfl⟩
  split <;> rename_i h3 <;> conv => whnf
  rotate_left
  · exact finB ⟨by rw [nothingB, show (r.kind == 0) = true from h1, show (r.id == 0) = true from h2, show (r.n == 0) = false from h3]; rfl⟩
  split <;> rename_i h4 <;> conv => whnf
  rotate_left
  · exact finB ⟨by rw [nothingB, show (r.kind == 0) = true from h1, show (r.id == 0) = true from h2, show (r.n == 0) = true from h3, show (r.key == ⟨#[]⟩) = false from h4]; rfl⟩
  split <;> rename_i h5 <;> conv => whnf
  rotate_left
  · exact finB ⟨by rw [nothingB, show (r.kind == 0) = true from h1, show (r.id == 0) = true from h2, show (r.n == 0) = true from h3, show (r.key == ⟨#[]⟩) = true from h4, show (r.body == ⟨#[]⟩) = false from h5]; rfl⟩
  exact finB ⟨by rw [nothingB, show (r.kind == 0) = true from h1, show (r.id == 0) = true from h2, show (r.n == 0) = true from h3, show (r.key == ⟨#[]⟩) = true from h4, show (r.body == ⟨#[]⟩) = true from h5]; exact congrArg (fun n : Nat => ((n : Int) == 0)) hm⟩
theorem live_con (v : Live) (hv : v.Ok) : Con P 90 [encLive v] (Bl (liveB v)) [] := by
  refine Con.of T_ok Tryz.func90 rfl (by kernel_rfl) (by kernel_rfl) (aw_of T_ok (by kernel_rfl) ?_)
  conv => whnf
  split <;> rename_i h1 <;> conv => whnf
  · exact finB ⟨by rw [liveB, if_pos (by rw [show decide (v.tries < 0) = true from h1]; rfl)]⟩
  split <;> rename_i h2 <;> conv => whnf
  · exact finB ⟨by rw [liveB, if_pos (by rw [show decide (v.tries < 0) = false from h1, show decide (1073741824 < v.tries) = true from h2]; rfl)]⟩
  split <;> rename_i h3 <;> conv => whnf
  · exact finB ⟨by rw [liveB, if_pos (by rw [show decide (v.tries < 0) = false from h1, show decide (1073741824 < v.tries) = false from h2, show decide (v.due < 0) = true from h3]; rfl)]⟩
  split <;> rename_i h4 <;> conv => whnf
  · exact finB ⟨by rw [liveB, if_pos (by rw [show decide (v.tries < 0) = false from h1, show decide (1073741824 < v.tries) = false from h2, show decide (v.due < 0) = false from h3, show decide (1073741832 < v.due) = true from h4]; rfl)]⟩
  have hb : liveB v = if nothingB v.write then !v.put else v.write.kind != 1 && (recB v.write && fitsL v) := by
    rw [liveB, if_neg (by rw [show decide (v.tries < 0) = false from h1, show decide (1073741824 < v.tries) = false from h2, show decide (v.due < 0) = false from h3, show decide (1073741832 < v.due) = false from h4]; decide)]
  rw [hb]
  refine callS (nothing_con v.write) rfl ?_
  conv => whnf
  split <;> rename_i h5 <;> conv => whnf
  · exact finB ⟨by rw [if_pos h5]⟩
  have h5' : ¬ nothingB v.write = true := by rw [show nothingB v.write = false from h5]; decide
  split <;> rename_i h6 <;> conv => whnf
  rotate_left
  · exact finB ⟨by rw [if_neg h5', show (v.write.kind != 1) = false from h6]; rfl⟩
  refine callS (recMay_con v.write hv.write) rfl ?_
  conv => whnf
  split <;> rename_i h7 <;> conv => whnf
  rotate_left
  · exact finB ⟨by rw [if_neg h5', show (v.write.kind != 1) = true from h6, show recB v.write = false from h7]; rfl⟩
  refine callS (fitsTop_con v.saga v.write) rfl ?_
  conv => whnf
  exact finB ⟨by rw [if_neg h5', show (v.write.kind != 1) = true from h6, show recB v.write = true from h7]; rfl⟩
theorem mayOut_con (n : Int) : Con P 83 [Go.Rx.I n] (Bl (outBad n)) [] := by
  refine Con.of T_ok Tryz.func83 rfl (by kernel_rfl) (by kernel_rfl) (aw_of T_ok (by kernel_rfl) ?_)
  conv => whnf
  split <;> rename_i h1 <;> conv => whnf
  · exact finB ⟨by rw [outBad, show decide (n < 0) = true from h1]; rfl⟩
  exact finB ⟨by rw [outBad, show decide (n < 0) = false from h1]; rfl⟩
theorem indexOut_con (l : List Int) (hl : l.length * 8 ≤ 140737488351232) : Con P 120 [.lf (.pv (encInts l)), .lf (.fn 83 [])] (I (idxL outBad l 0)) [] := by
  refine Con.of T_ok Tryz.func120 rfl (by kernel_rfl) (by kernel_rfl) (aw_of T_ok (by kernel_rfl) ?_)
  conv => whnf
  refine AW.loop (fun k : Nat => k ≤ l.length ∧ idxL outBad (l.drop k) k = idxL outBad l 0) (fun k => [(0, .lf (.pv (encInts l))), (1, .lf (.fn 83 [])), (7, Go.Rx.I l.length), (8, Go.Rx.I k)]) (fun _ => []) (fun k => l.length - k) [] ?_ ?_
  · exact ⟨0, ⟨Nat.zero_le _, rfl⟩, ⟨rfl, rfl, congrArg (fun n : Nat => Go.Rx.I (n : Int)) (List.length_map ..), rfl, trivial⟩, ⟨[], rfl⟩, rfl, rfl⟩
  · rintro k ⟨hk, hpre⟩
    refine aw_of T_ok (by kernel_rfl) ?_
    conv => whnf
    split <;> rename_i hlt <;> conv => whnf
    · have hkl : k < l.length := by simpa using hlt
      rw [idx_go hkl] at hpre
      refine ⟨by omega, [pI l[k]], by simp [hkl], ?_⟩
      conv => whnf
      refine callS (mayOut_con l[k]) rfl ?_
      conv => whnf
      split <;> rename_i he <;> conv => whnf
      · refine finI ⟨?_⟩
        rw [← hpre, if_pos (show outBad l[k] = true from he)]
      · refine ⟨k + 1, ⟨⟨by omega, ?_⟩, by omega⟩, ⟨rfl, rfl, rfl, congrArg Go.Rx.I (wrapI (by omega)), trivial⟩, ⟨[], rfl⟩, rfl, rfl⟩
        rw [← hpre, if_neg (by rw [show outBad l[k] = false from he]; decide)]
    · refine finI ⟨?_⟩
      have hkl : l.length ≤ k := by simpa using hlt
      rw [← hpre, idx_end hkl]
theorem anyOut_con (l : List Int) (hl : l.length * 8 ≤ 140737488351232) : Con P 84 [.lf (.pv (encInts l)), .lf (.fn 83 [])] (Bl (l.any outBad)) [] := by
  refine Con.of T_ok Tryz.func84 rfl (by kernel_rfl) (by kernel_rfl) (aw_of T_ok (by kernel_rfl) ?_)
  conv => whnf
  refine callS (indexOut_con l hl) rfl ?_
  conv => whnf
  exact finB ⟨idx_any l 0⟩
theorem indexLv_con (f : FuncId) (p : Live → Bool) (l : List Live) (hl : l.length * 200 ≤ 140737488351232) (hf : ∀ v ∈ l, Con P f [encLive v] (Bl (p v)) []) : Con P 91 [.lf (.pv (encLives l)), .lf (.fn f [])] (I (idxL p l 0)) [] := by
  refine Con.of T_ok Tryz.func91 rfl (by kernel_rfl) (by kernel_rfl) (aw_of T_ok (by kernel_rfl) ?_)
  conv => whnf
  refine AW.loop (fun k : Nat => k ≤ l.length ∧ idxL p (l.drop k) k = idxL p l 0) (fun k => [(0, .lf (.pv (encLives l))), (1, .lf (.fn f [])), (7, Go.Rx.I l.length), (8, Go.Rx.I k)]) (fun _ => []) (fun k => l.length - k) [] ?_ ?_
  · exact ⟨0, ⟨Nat.zero_le _, rfl⟩, ⟨rfl, rfl, congrArg (fun n : Nat => Go.Rx.I (n : Int)) (List.length_map ..), rfl, trivial⟩, ⟨[], rfl⟩, rfl, rfl⟩
  · rintro k ⟨hk, hpre⟩
    refine aw_of T_ok (by kernel_rfl) ?_
    conv => whnf
    split <;> rename_i hlt <;> conv => whnf
    · have hkl : k < l.length := by simpa using hlt
      rw [idx_go hkl] at hpre
      refine ⟨by omega, (l[k]).enc, by simp [hkl], ?_⟩
      conv => whnf
      refine callS (hf l[k] (List.getElem_mem hkl)) rfl ?_
      conv => whnf
      split <;> rename_i he <;> conv => whnf
      · refine finI ⟨?_⟩
        rw [← hpre, if_pos (show p l[k] = true from he)]
      · refine ⟨k + 1, ⟨⟨by omega, ?_⟩, by omega⟩, ⟨rfl, rfl, rfl, congrArg Go.Rx.I (wrapI (by omega)), trivial⟩, ⟨[], rfl⟩, rfl, rfl⟩
        rw [← hpre, if_neg (by rw [show p l[k] = false from he]; decide)]
    · refine finI ⟨?_⟩
      have hkl : l.length ≤ k := by simpa using hlt
      rw [← hpre, idx_end hkl]
theorem anyLv_con (f : FuncId) (p : Live → Bool) (l : List Live) (hl : l.length * 200 ≤ 140737488351232) (hf : ∀ v ∈ l, Con P f [encLive v] (Bl (p v)) []) : Con P 51 [.lf (.pv (encLives l)), .lf (.fn f [])] (Bl (l.any p)) [] := by
  refine Con.of T_ok Tryz.func51 rfl (by kernel_rfl) (by kernel_rfl) (aw_of T_ok (by kernel_rfl) ?_)
  conv => whnf
  refine callS (indexLv_con f p l hl hf) rfl ?_
  conv => whnf
  exact finB ⟨idx_any l 0⟩
theorem may2_con (v : Live) (hv : v.Ok) : Con P 89 [encLive v] (Bl (!(liveB v))) [] := by
  refine Con.of T_ok Tryz.func89 rfl (by kernel_rfl) (by kernel_rfl) (aw_of T_ok (by kernel_rfl) ?_)
  conv => whnf
  refine callS (live_con v hv) rfl ?_
  conv => whnf
  exact finB ⟨rfl⟩
theorem idle1_con (v : Live) : Con P 52 [encLive v] (Bl (v.saga.status == 0)) [] := by
  refine Con.of T_ok Tryz.func52 rfl (by kernel_rfl) (by kernel_rfl) (aw_of T_ok (by kernel_rfl) ?_)
  conv => whnf
  exact finB ⟨rfl⟩
theorem sagas_con (l : List Live) (hl : l.length * 200 ≤ 140737488351232) : Con P 88 [.lf (.pv (encLives l))] (.lf (.own 0 (sagasL l).length)) [.arr 40 9 ((sagasL l).map Saga.enc)] := by
  have hsl : ∀ m : List Live, (sagasL m).length = m.length := fun m => List.length_map ..
  refine ConG.con (ConG.of T_ok Tryz.func88 rfl (by kernel_rfl) (by kernel_rfl) (aw_of T_ok (by kernel_rfl) ?_)) rfl
  conv => whnf
  refine AW.loop (fun k : Nat => k ≤ l.length) (fun k => [(2, .lf (.own 0 (sagasL (l.take k)).length)), (5, .lf (.pv (encLives l))), (6, Go.Rx.I l.length), (7, Go.Rx.I k)]) (fun k => [.arr 40 9 ((sagasL (l.take k)).map Saga.enc)]) (fun k => l.length - k) [.slot 2 40 9] ?_ ?_
  · exact ⟨rfl, 0, Nat.zero_le _, ⟨rfl, rfl, congrArg (fun n : Nat => Go.Rx.I (n : Int)) (List.length_map ..), rfl, trivial⟩, ⟨[], rfl⟩, rfl, rfl⟩
  intro k hk
  refine aw_of T_ok (by kernel_rfl) ?_
  conv => whnf
  split <;> rename_i hlt <;> conv => whnf
  · have hkl : k < l.length := by simpa using hlt
    have hnx : sagasL (l.take (k + 1)) = sagasL (l.take k) ++ [l[k].saga] := by rw [sagasL, take_succ' hkl, List.map_append]; rfl
    refine ⟨by omega, (l[k]).enc, by simp [hkl], ?_⟩
    conv => whnf
    refine ⟨rfl, _, .inl rfl, ?_⟩
    conv => whnf
    have hb := hsl (l.take k)
    rw [List.length_take] at hb
    refine ⟨List.length_map .., by show ((sagasL (l.take k)).length + 1) * 96 ≤ _; omega, ?_⟩
    conv => whnf
    refine ⟨k + 1, ⟨hkl, by omega⟩, ⟨?zu, rfl, rfl, congrArg Go.Rx.I (wrapI (by omega)), trivial⟩, ⟨[?zr1, ?zr2], ?zb⟩, rfl, rfl⟩
    case zu => rw [hnx, List.length_append]; rfl
    case zb =>
      show _ = [Blk.arr _ 9 ((sagasL (l.take (k + 1))).map Saga.enc)] ++ [_, _]
      rw [hnx, List.map_append]
      rfl
  · have hkl : l.take k = l := List.take_of_length_le (by simpa using hlt)
    rw [hkl]
    exact ⟨[], [0], [.lf (.own 0 (sagasL l).length)], [.lf (.own 0 (sagasL l).length)], rfl, rfl, rfl, wk_refl _, rfl⟩
end Go.Proofs.YtfjllfjmggooeaaGreatDoor.Rx

/- The arguments of the worlds' laws, opened. -/
set_option linter.unusedVariables false
namespace Go.Rx
structure WAct where
  act : Int
  n : Int
  r : Rec
abbrev WAct.enc (a : WAct) : List PV := [pI a.act, pI a.n, pI a.r.kind, pI a.r.id, pI a.r.n, pS a.r.key, pS a.r.body, encSteps a.r.steps]
structure WScript where
  w : Wd
  l : List WAct
structure WScript.Ok (p : WScript) : Prop where
  w : p.w.Ok
  len : p.l.length * 96 ≤ 140737488351232
  each : ∀ a ∈ p.l, a.r.Ok
abbrev encWActs (l : List WAct) : PV := .sl 8 (l.map WAct.enc)
abbrev encWScript (p : WScript) : AV := .agg [.pv (pI p.w.clock), .pv (pS p.w.file.safe), .pv (pS p.w.file.tail), .pv (pI p.w.file.cap), .pv (encLedgers p.w.ledgers), .pv (encLives p.w.lives), .pv (encInts p.w.outs), .pv (pI p.w.taken), .pv (encWActs p.l)]
end Go.Rx
namespace Go.Proofs.YtfjllfjmggooeaaGreatDoor.Rx
open Go.Rx Go.Rx.Lift Go.Proofs
theorem opEntryW : Opens P 102 Entry.enc Entry.Ok := by
  have h := opens_struct (total := 5) Tryz.underlying102 (by kernel_rfl) (from_cons 1 rfl rfl (by kernel_rfl) opInt (from_cons 1 rfl rfl (by kernel_rfl) opBool (from_cons 1 rfl rfl (by kernel_rfl) opStr (from_cons 1 rfl rfl (by kernel_rfl) opStr (from_last 1 rfl rfl (by kernel_rfl) rfl opInt)))))
  exact opens_iso (fun q : Int × Bool × ByteArray × ByteArray × Int => ⟨q.1, q.2.1, q.2.2.1, q.2.2.2.1, q.2.2.2.2⟩) (fun _ => rfl) (fun _ h => ⟨h.2.2.1, h.2.2.2.1⟩) h
theorem opLedgerW : Opens P 47 Ledger.enc Ledger.Ok := by
  have h := opens_struct (total := 3) Tryz.underlying47 (by kernel_rfl) (from_cons 1 rfl rfl (by kernel_rfl) opInt (from_cons 1 rfl rfl (by kernel_rfl) (opens_slice (sz := 5) (B := 56) Tryz.underlying45 (by kernel_rfl) (by decide) (by kernel_rfl) opEntryW) (from_last 1 rfl rfl (by kernel_rfl) rfl (opens_slice (sz := 1) (B := 8) Tryz.underlying26 (by kernel_rfl) (by decide) (by kernel_rfl) opInt))))
  exact opens_iso (fun q : Int × List Entry × List Int => ⟨q.1, q.2.1, q.2.2⟩) (fun _ => rfl) (fun _ h => ⟨h.2.1.1, h.2.2.1, h.2.1.2⟩) h
theorem opFileW : Opens P 23 FileS.enc FileS.Ok := by
  have h := opens_struct (total := 3) Tryz.underlying23 (by kernel_rfl) (from_cons 1 rfl rfl (by kernel_rfl) opStr (from_cons 1 rfl rfl (by kernel_rfl) opStr (from_last 1 rfl rfl (by kernel_rfl) rfl opInt)))
  exact opens_iso (fun q : ByteArray × ByteArray × Int => ⟨q.1, q.2.1, q.2.2⟩) (fun _ => rfl) (fun _ h => ⟨h.1, h.2.1⟩) h
theorem opLive : Opens P 44 Live.enc Live.Ok := by
  have h := opens_struct (total := 18) Tryz.underlying44 (by kernel_rfl) (from_cons 9 rfl rfl (by kernel_rfl) opSaga (from_cons 1 rfl rfl (by kernel_rfl) opInt (from_cons 1 rfl rfl (by kernel_rfl) opInt (from_cons 6 rfl rfl (by kernel_rfl) opRec (from_last 1 rfl rfl (by kernel_rfl) rfl opBool)))))
  exact opens_iso (fun q : Saga × Int × Int × Rec × Bool => ⟨q.1, q.2.1, q.2.2.1, q.2.2.2.1, q.2.2.2.2⟩) (fun _ => rfl) (fun _ h => ⟨h.1, h.2.2.2.1⟩) h
theorem opWd : Opens P 28 (fun w : Wd => [pI w.clock, pS w.file.safe, pS w.file.tail, pI w.file.cap, encLedgers w.ledgers, encLives w.lives, encInts w.outs, pI w.taken]) Wd.Ok := by
  have h := opens_struct (total := 8) Tryz.underlying28 (by kernel_rfl) (from_cons 1 rfl rfl (by kernel_rfl) opInt (from_cons 3 rfl rfl (by kernel_rfl) opFileW
    (from_cons 1 rfl rfl (by kernel_rfl) (opens_slice (sz := 3) (B := 56) Tryz.underlying24 (by kernel_rfl) (by decide) (by kernel_rfl) opLedgerW)
    (from_cons 1 rfl rfl (by kernel_rfl) (opens_slice (sz := 18) (B := 200) Tryz.underlying25 (by kernel_rfl) (by decide) (by kernel_rfl) opLive)
    (from_cons 1 rfl rfl (by kernel_rfl) (opens_slice (sz := 1) (B := 8) Tryz.underlying26 (by kernel_rfl) (by decide) (by kernel_rfl) opInt) (from_last 1 rfl rfl (by kernel_rfl) rfl opInt))))))
  exact opens_iso (fun q : Int × FileS × List Ledger × List Live × List Int × Int => ⟨q.1, q.2.1, q.2.2.1, q.2.2.2.1, q.2.2.2.2.1, q.2.2.2.2.2⟩) (fun _ => rfl) (fun _ h => ⟨h.2.1, h.2.2.1.1, h.2.2.2.1.1, h.2.2.2.2.1.1, h.2.2.1.2, h.2.2.2.1.2⟩) h
theorem opWAct : Opens P 75 WAct.enc (fun a => a.r.Ok) := by
  have h := opens_struct (total := 8) Tryz.underlying75 (by kernel_rfl) (from_cons 1 rfl rfl (by kernel_rfl) opInt (from_cons 1 rfl rfl (by kernel_rfl) opInt (from_last 6 rfl rfl (by kernel_rfl) rfl opRec)))
  exact opens_iso (fun q : Int × Int × Rec => ⟨q.1, q.2.1, q.2.2⟩) (fun _ => rfl) (fun _ h => h.2.2) h
theorem opWScript : Opens P 31 (fun p : WScript => [pI p.w.clock, pS p.w.file.safe, pS p.w.file.tail, pI p.w.file.cap, encLedgers p.w.ledgers, encLives p.w.lives, encInts p.w.outs, pI p.w.taken, encWActs p.l]) WScript.Ok := by
  have h := opens_struct (total := 9) Tryz.underlying31 (by kernel_rfl) (from_cons 8 rfl rfl (by kernel_rfl) opWd (from_last 1 rfl rfl (by kernel_rfl) rfl (opens_slice (sz := 8) (B := 96) Tryz.underlying29 (by kernel_rfl) (by decide) (by kernel_rfl) opWAct)))
  exact opens_iso (fun q : Wd × List WAct => ⟨q.1, q.2⟩) (fun _ => rfl) (fun _ h => ⟨h.1, h.2.1, h.2.2⟩) h
end Go.Proofs.YtfjllfjmggooeaaGreatDoor.Rx

/- May a world be: the whole. -/
set_option linter.unusedVariables false
set_option linter.unusedSimpArgs false
namespace Go.Rx
theorem ledg_go {l : List Ledger} {k : Nat} (h : k < l.length) : ledgersGo (l.drop k) k = ((l[k].service == ((k + 1 : Nat) : Int) && ledgerB l[k]) && ledgersGo (l.drop (k + 1)) (k + 1)) := by
  rw [List.drop_eq_getElem_cons h, ledgersGo]
theorem tog_saga {l : List Live} (h : togB (sagasL l) = true) {v : Live} (hv : v ∈ l) : sagaB v.saga = true := by
  rw [togB, Bool.and_eq_true] at h
  obtain ⟨i, hi, e⟩ := List.getElem_of_mem hv
  have hl : i < (sagasL l).length := by rw [sagasL, List.length_map]; exact hi
  have h1 := List.all_eq_true.1 h.1 i (List.mem_range.2 hl)
  rw [togAt_eq hl, Bool.and_eq_true] at h1
  have : (sagasL l)[i] = v.saga := by rw [← e]; exact List.getElem_map ..
  rw [this] at h1
  exact h1.1
end Go.Rx
namespace Go.Proofs.YtfjllfjmggooeaaGreatDoor.Rx
open Go.Rx Go.Proofs Go.Proofs.YtfjllfjmggooeaaGreatDoor.RxH
theorem ledgers_con (l : List Ledger) (hl : l.length * 56 ≤ 140737488351232) (hg : ∀ g ∈ l, g.Ok) : Con P 86 [.lf (.pv (encLedgers l))] (Bl (ledgersB l)) [] := by
  have hm : (l.map Ledger.enc).length = l.length := List.length_map ..
  obtain ⟨r, hr⟩ : ∃ r, r = ledgersB l := ⟨_, rfl⟩
  rw [← hr]
  rw [ledgersB] at hr
  refine Con.of T_ok Tryz.func86 rfl (by kernel_rfl) (by kernel_rfl) (aw_of T_ok (by kernel_rfl) ?_)
  conv => whnf
  refine AW.loop (fun k : Nat => k ≤ l.length ∧ (ledgersGo (l.drop k) k && ((l.length : Int) == 4)) = r) (fun k => [(0, .lf (.pv (encLedgers l))), (5, .lf (.pv (encLedgers l))), (6, Go.Rx.I l.length), (7, Go.Rx.I k)]) (fun _ => []) (fun k => l.length - k) [] ?_ ?_
  · exact ⟨0, ⟨Nat.zero_le _, hr.symm⟩, ⟨rfl, rfl, congrArg (fun n : Nat => Go.Rx.I (n : Int)) (List.length_map ..), rfl, trivial⟩, ⟨[], rfl⟩, rfl, rfl⟩
  · rintro k ⟨hk, hpre⟩
    refine aw_of T_ok (by kernel_rfl) ?_
    conv => whnf
    split <;> rename_i hlt <;> conv => whnf
    · have hkl : k < l.length := by simpa using hlt
      have hrow : (l.map Ledger.enc)[k]? = some l[k].enc := by simp [hkl]
      have hok := hg l[k] (List.getElem_mem hkl)
      rw [ledg_go hkl] at hpre
      generalize l[k] = g at hrow hok hpre
      have wk : IntKind.i64.wrap ((k : Int) + 1) = ((k + 1 : Nat) : Int) := wrapI (by omega)
      refine ⟨by omega, _, hrow, ?_⟩
      conv => whnf
      split <;> rename_i h1 <;> conv => whnf
      · have h1' : (g.service != IntKind.i64.wrap ((k : Int) + 1)) = true := h1
        rw [wk] at h1'
        refine finB ⟨?_⟩
        have : (g.service == ((k + 1 : Nat) : Int)) = false := by simpa using h1'
        rw [← hpre, this]; rfl
      · have h1' : (g.service != IntKind.i64.wrap ((k : Int) + 1)) = false := h1
        rw [wk] at h1'
        have e1 : (g.service == ((k + 1 : Nat) : Int)) = true := by simpa using h1'
        refine callS (ledgerMay_con g hok) rfl ?_
        conv => whnf
        split <;> rename_i h2 <;> conv => whnf
        · have h2' : ledgerB g = false := by simpa using h2
          refine finB ⟨?_⟩
          rw [← hpre, e1, h2']; rfl
        · have h2' : ledgerB g = true := by simpa using h2
          refine ⟨k + 1, ⟨⟨hkl, ?_⟩, by omega⟩, ⟨rfl, rfl, rfl, congrArg Go.Rx.I wk, trivial⟩, ⟨[_], rfl⟩, rfl, rfl⟩
          rw [← hpre, e1, h2']; rfl
    · have hkl : l.length ≤ k := by simpa using hlt
      refine finB ⟨?_⟩
      rw [← hpre, List.drop_of_length_le hkl]
      show (((l.map Ledger.enc).length : Int) == 4) = (true && ((l.length : Int) == 4))
      rw [hm, Bool.true_and]
theorem worldMay_con (w : Wd) (hw : w.Ok) : Con P 50 [encWd w] (Bl (worldB w)) [] := by
  have hol : (w.outs.map fun n => [pI n]).length = w.outs.length := List.length_map ..
  have c1 := anyOut_con w.outs hw.ol
  have c2 := fmay_con w.file hw.file
  have c3 := ledgers_con w.ledgers hw.gl hw.ledgers
  have c4 := sagas_con w.lives hw.ll
  have hsm : ((sagasL w.lives).map Saga.enc).length = (sagasL w.lives).length := List.length_map ..
  have c5 := replayMay_con (sagasL w.lives) (by rw [sagasL, List.length_map]; have := hw.ll; omega) (fun s hs => by rw [sagasL, List.mem_map] at hs; obtain ⟨v, hv, rfl⟩ := hs; exact (hw.lives v hv).saga)
  have c6 := anyLv_con 89 (fun v => !(liveB v)) w.lives hw.ll (fun v hv => may2_con v (hw.lives v hv))
  obtain ⟨r, hr⟩ : ∃ r, r = worldB w := ⟨_, rfl⟩
  rw [← hr]
  rw [worldB] at hr
  generalize w.outs.any outBad = b1 at c1 hr
  generalize fileB w.file = b2 at c2 hr
  generalize ledgersB w.ledgers = b3 at c3 hr
  generalize togB (sagasL w.lives) = b4 at c5 hr
  generalize (w.lives.any fun v => !(liveB v)) = b6 at c6 hr
  refine Con.of T_ok Tryz.func50 rfl (by kernel_rfl) (by kernel_rfl) (aw_of T_ok (by kernel_rfl) ?_)
  conv => whnf
  split <;> rename_i h1 <;> conv => whnf
  · exact finB ⟨by rw [hr, if_pos (by rw [show decide (w.clock < 0) = true from h1]; rfl)]⟩
  split <;> rename_i h2 <;> conv => whnf
  · exact finB ⟨by rw [hr, if_pos (by rw [show decide (w.clock < 0) = false from h1, show decide (1073741824 < w.clock) = true from h2]; rfl)]⟩
  split <;> rename_i h3 <;> conv => whnf
  · exact finB ⟨by rw [hr, if_pos (by rw [show decide (w.clock < 0) = false from h1, show decide (1073741824 < w.clock) = false from h2, show decide (w.taken < 0) = true from h3]; rfl)]⟩
  split <;> rename_i h4 <;> conv => whnf
  · exact finB ⟨by rw [hr, if_pos (by rw [show decide (w.clock < 0) = false from h1, show decide (1073741824 < w.clock) = false from h2, show decide (w.taken < 0) = false from h3, show decide (1073741824 < w.taken) = true from h4]; rfl)]⟩
  have e5 : ∀ b, decide (((w.outs.map fun n => [pI n]).length : Int) > 400) = b → decide (400 < (w.outs.length : Int)) = b := fun b h => by rw [hol] at h; exact h
  split <;> rename_i h5 <;> conv => whnf
  · exact finB ⟨by rw [hr, if_pos (by rw [show decide (w.clock < 0) = false from h1, show decide (1073741824 < w.clock) = false from h2, show decide (w.taken < 0) = false from h3, show decide (1073741824 < w.taken) = false from h4, e5 _ h5]; rfl)]⟩
  refine callS c1 rfl ?_
  conv => whnf
  cases b1 with
  | true =>
    conv => whnf
    exact finB ⟨by rw [hr, if_pos (by rw [show decide (w.clock < 0) = false from h1, show decide (1073741824 < w.clock) = false from h2, show decide (w.taken < 0) = false from h3, show decide (1073741824 < w.taken) = false from h4, e5 _ h5]; rfl)]⟩
  | false =>
  conv => whnf
  rw [if_neg (by rw [show decide (w.clock < 0) = false from h1, show decide (1073741824 < w.clock) = false from h2, show decide (w.taken < 0) = false from h3, show decide (1073741824 < w.taken) = false from h4, e5 _ h5]; decide)] at hr
  refine callS c2 rfl ?_
  conv => whnf
  cases b2 with
  | false =>
    conv => whnf
    exact finB ⟨by rw [hr]; rfl⟩
  | true =>
  conv => whnf
  refine callS c3 rfl ?_
  conv => whnf
  cases b3 with
  | false =>
    conv => whnf
    exact finB ⟨by rw [hr]; rfl⟩
  | true =>
  conv => whnf
  refine ⟨_, _, _, wk_refl _, c4, .inr ?_⟩
  conv => whnf
  refine ⟨hsm, ?_⟩
  conv => whnf
  refine callS c5 rfl ?_
  conv => whnf
  cases b4 with
  | false =>
    conv => whnf
    exact finB ⟨by rw [hr]; rfl⟩
  | true =>
  conv => whnf
  refine callS c6 rfl ?_
  conv => whnf
  exact finB ⟨by rw [hr]; rfl⟩
end Go.Proofs.YtfjllfjmggooeaaGreatDoor.Rx

/- What the steps of a world lean on: keys, waits, new files, memory of one's own. -/
set_option linter.unusedVariables false
set_option linter.unusedSimpArgs false
namespace Go.Rx
def newF (n : Int) : FileS × Int := if fileB ⟨⟨#[]⟩, ⟨#[]⟩, n⟩ then (⟨⟨#[]⟩, ⟨#[]⟩, n⟩, 0) else (zF, 1)
abbrev pairI (p : Int × Int) : AV := .tup [.lf (.pv (pI p.1)), .lf (.pv (pI p.2))]
end Go.Rx
namespace Go.Proofs.YtfjllfjmggooeaaGreatDoor.Rx
open Go.Rx Go.Proofs Go.Proofs.YtfjllfjmggooeaaGreatDoor.RxH
theorem pair_con' (id i : Int) : Con P 171 [Go.Rx.I id, Go.Rx.I i] (pairI (callKey id i, undoKey id i)) [] := by
  refine Con.of T_ok Tryz.func171 rfl (by kernel_rfl) (by kernel_rfl) (aw_of T_ok (by kernel_rfl) ?_)
  conv => whnf
  exact ⟨_, wk_refl _, rfl⟩
theorem long_con (t : Int) (ht : 0 ≤ t) (ht2 : t ≤ 4611686018427387904) : Con P 175 [Go.Rx.I t] (Go.Rx.I (longI t)) [] := by
  obtain ⟨m, hm⟩ : ∃ m : Int, m = (if 8 < t then 8 else t) - 1 := ⟨_, rfl⟩
  have hm1 : -1 ≤ m ∧ m ≤ 7 := by rw [hm]; split <;> omega
  have hw : IntKind.i64.wrap ((if 8 < t then 8 else t) - 1) = m := by rw [← hm]; exact wrapI (by omega)
  obtain ⟨r, hr⟩ : ∃ r, r = longI t := ⟨_, rfl⟩
  rw [← hr]
  rw [longI, ← hm] at hr
  refine Con.of T_ok Tryz.func175 rfl (by kernel_rfl) (by kernel_rfl) (aw_of T_ok (by kernel_rfl) ?_)
  conv => whnf
  refine AW.loop (fun p : Nat × Int => (p.1 : Int) ≤ (if m < 0 then 0 else m) ∧ longGo (m.toNat - p.1) p.2 = r) (fun p => [(3, Go.Rx.I p.2), (6, Go.Rx.I m), (7, Go.Rx.I p.1)]) (fun _ => []) (fun p => m.toNat - p.1) [] ?_ ?_
  · refine ⟨(0, 1), ⟨by split <;> (try show (0 : Int) ≤ _) <;> omega, hr.symm⟩, ⟨rfl, congrArg Go.Rx.I hw, rfl, trivial⟩, ⟨[], rfl⟩, rfl, rfl⟩
  rintro ⟨k, n⟩ ⟨hk, hpre⟩
  simp only at hk hpre
  refine aw_of T_ok (by kernel_rfl) ?_
  conv => whnf
  split <;> rename_i hlt <;> conv => whnf
  · have hkl : (k : Int) < m := of_decide_eq_true hlt
    have e : m.toNat - k = (m.toNat - (k + 1)) + 1 := by omega
    rw [e, longGo] at hpre
    refine ⟨(k + 1, if 8 < IntKind.i64.wrap (2 * n) then 8 else IntKind.i64.wrap (2 * n)), ⟨⟨?zp, hpre⟩, ?zq⟩, ⟨rfl, rfl, congrArg Go.Rx.I (wrapI (by omega)), trivial⟩, ⟨[], rfl⟩, rfl, rfl⟩
    case zp => show ((k + 1 : Nat) : Int) ≤ _; split <;> omega
    case zq => show m.toNat - (k + 1) < m.toNat - k; omega
  · have hkl : ¬ (k : Int) < m := of_decide_eq_false hlt
    have e : m.toNat - k = 0 := by omega
    rw [e, longGo] at hpre
    exact finI ⟨hpre⟩
theorem fnew_con (n : Int) : Con P 65 [Go.Rx.I n] (fileE (newF n)) [] := by
  have hr : newF n = if fileB ⟨⟨#[]⟩, ⟨#[]⟩, n⟩ then (⟨⟨#[]⟩, ⟨#[]⟩, n⟩, 0) else (zF, 1) := rfl
  have c1 := fmay_con ⟨⟨#[]⟩, ⟨#[]⟩, n⟩ ⟨Nat.zero_le _, Nat.zero_le _⟩
  obtain ⟨r, he⟩ : ∃ r, r = newF n := ⟨_, rfl⟩
  rw [← he]
  rw [← he] at hr
  refine Con.of T_ok Tryz.func65 rfl (by kernel_rfl) (by kernel_rfl) (aw_of T_ok (by kernel_rfl) ?_)
  conv => whnf
  refine callS c1 rfl ?_
  conv => whnf
  split <;> rename_i h1 <;> conv => whnf
  · have h1' : fileB ⟨⟨#[]⟩, ⟨#[]⟩, n⟩ = false := by simpa using h1
    rw [if_neg (by rw [h1']; decide)] at hr
    exact finFE ⟨hr.symm⟩
  · have h1' : fileB ⟨⟨#[]⟩, ⟨#[]⟩, n⟩ = true := by simpa using h1
    rw [if_pos h1'] at hr
    exact finFE ⟨hr.symm⟩
theorem cloneG_con (l : List Ledger) (hl : l.length * 56 ≤ 140737488351232) : Con P 93 [.lf (.pv (encLedgers l))] (.lf (.own 0 l.length)) [.arr 47 3 (l.map Ledger.enc)] := by
  have hm : (l.map Ledger.enc).length = l.length := List.length_map ..
  refine ConG.con (ConG.of T_ok Tryz.func93 rfl (by kernel_rfl) (by kernel_rfl) (aw_ofC T_ok 2001 (by kernel_rfl) ?_)) rfl
  conv => whnf
  refine AW.seq (AW.nilTest T_ok rfl rfl (by decide) ?_ ?_) fun sl bk h => aw_of T_ok (by kernel_rfl) h
  · intro h0
    conv => whnf
    have hl0 : l = [] := by simpa using h0
    subst hl0
    exact ⟨[.slot 2 47 3], rfl, [0], [.lf (.own 0 0)], [.lf (.own 0 0)], rfl, rfl, rfl, wk_refl _, rfl⟩
  · conv => whnf
    refine ⟨_, .inl rfl, ?_⟩
    conv => whnf
    refine ⟨rfl, by show (0 + (l.map Ledger.enc).length) * 56 ≤ _; omega, ?_⟩
    conv => whnf
    refine ⟨[], [0], [.lf (.own 0 l.length)], [.lf (.own 0 l.length)], rfl, rfl, ?_, wk_refl _, rfl⟩
    show some [AV.lf (.own 0 (0 + (l.map Ledger.enc).length))] = _
    rw [hm, Nat.zero_add]
theorem cloneL_con (l : List Live) (hl : l.length * 200 ≤ 140737488351232) : Con P 94 [.lf (.pv (encLives l))] (.lf (.own 0 l.length)) [.arr 44 18 (l.map Live.enc)] := by
  have hm : (l.map Live.enc).length = l.length := List.length_map ..
  refine ConG.con (ConG.of T_ok Tryz.func94 rfl (by kernel_rfl) (by kernel_rfl) (aw_ofC T_ok 2001 (by kernel_rfl) ?_)) rfl
  conv => whnf
  refine AW.seq (AW.nilTest T_ok rfl rfl (by decide) ?_ ?_) fun sl bk h => aw_of T_ok (by kernel_rfl) h
  · intro h0
    conv => whnf
    have hl0 : l = [] := by simpa using h0
    subst hl0
    exact ⟨[.slot 2 44 18], rfl, [0], [.lf (.own 0 0)], [.lf (.own 0 0)], rfl, rfl, rfl, wk_refl _, rfl⟩
  · conv => whnf
    refine ⟨_, .inl rfl, ?_⟩
    conv => whnf
    refine ⟨rfl, by show (0 + (l.map Live.enc).length) * 200 ≤ _; omega, ?_⟩
    conv => whnf
    refine ⟨[], [0], [.lf (.own 0 l.length)], [.lf (.own 0 l.length)], rfl, rfl, ?_, wk_refl _, rfl⟩
    show some [AV.lf (.own 0 (0 + (l.map Live.enc).length))] = _
    rw [hm, Nat.zero_add]
end Go.Proofs.YtfjllfjmggooeaaGreatDoor.Rx

/- A step's call. -/
set_option linter.unusedVariables false
set_option linter.unusedSimpArgs false
namespace Go.Rx
abbrev ledQ (p : Ledger × Int × Int) : AV := .tup [.agg [.pv (pI p.1.service), .pv (encEntries p.1.entries), .pv (encInts p.1.known)], .lf (.pv (pI p.2.1)), .lf (.pv (pI p.2.2))]
theorem finLQ {g : Ledger} {a e : Int} {q : Ledger × Int × Int} (h : Fin (g, a, e) q) : ∃ zs, Fa WkA [encLedger g, I a, I e] zs ∧ pack zs = some (ledQ q) := ⟨_, wk_refl _, by rw [← h.out]; rfl⟩
abbrev nilI : AV := .lf (.pv (.sc .nilIface))
abbrev nilT : TC := .lf (.pv (.sc .nilIface))
/-- A step of this saga may be called. -/
structure CallOk (w : Wd) (s : Saga) : Prop where
  taken : 0 ≤ w.taken
  outs : w.outs.length * 8 ≤ 140737488351232
  left : s.back = true → -9223372036854775808 ≤ s.left - 1 ∧ s.left - 1 ≤ 9223372036854775807
  at0 : 0 ≤ stepI s
  at1 : stepI s < s.steps.length
  gl : w.ledgers.length = 4
  sv : 1 ≤ (stepAt s).service ∧ (stepAt s).service ≤ 4
  ok : ∀ g ∈ w.ledgers, g.Ok
  srt : ∀ g ∈ w.ledgers, g.known.Pairwise (· < ·)
end Go.Rx
namespace Go.Proofs.YtfjllfjmggooeaaGreatDoor.Rx
open Go.Rx Go.Proofs Go.Proofs.YtfjllfjmggooeaaGreatDoor.RxH
/-- The blocks that a mover holds. -/
abbrev mvB (w : Wd) : List Blk := [.var (w.own 1), .arr 47 3 (w.ledgers.map Ledger.enc), .arr 44 18 (w.lives.map Live.enc), .arr 3 1 (intRows w.outs)]
theorem doQ_con (g : Ledger) (h : g.Ok) (hs : g.known.Pairwise (· < ·)) (x : Entry) (no : Bool) (out : Int) : Con P 173 [encLedger g, encEntry x, Bl no, I out] (ledQ (doL g x no out)) [] := by
  refine Con.stays (do_con g h hs x no out) (by show 2 ≤ 3; omega) ?_
  conv => whnf
  refine ⟨List.length_map .., ?_⟩
  conv => whnf
  refine ⟨List.length_map .., ?_⟩
  conv => whnf
  exact finLQ ⟨rfl⟩
theorem out_con (w : Wd) (ht : 0 ≤ w.taken) : ConG P 174 (mvB w) [.lf (.ptr 0 0)] (Go.Rx.I (outW w)) (mvB w) := by
  have hol : (intRows w.outs).length = w.outs.length := List.length_map ..
  refine ConG.of T_ok Tryz.func174 rfl (by kernel_rfl) (by kernel_rfl) (aw_of T_ok (by kernel_rfl) ?_)
  conv => whnf
  refine AW.draw T_ok rfl (seqPl 0 12) (by kernel_rfl) (by kernel_rfl) ?_
  conv => whnf
  refine ⟨hol, ?_⟩
  conv => whnf
  split <;> rename_i h1 <;> conv => whnf
  · have h1' : w.taken < (w.outs.length : Int) := of_decide_eq_true h1
    have hlt : w.taken.toNat < w.outs.length := by omega
    have hrow : (intRows w.outs)[w.taken.toNat]? = some [pI w.outs[w.taken.toNat]] := by unfold intRows; simp [hlt]
    have ho : outW w = w.outs[w.taken.toNat] := by rw [outW, if_pos h1', List.getElem?_eq_getElem hlt]; rfl
    refine AW.draw T_ok rfl (seqPl 0 13) (by kernel_rfl) (by kernel_rfl) ?_
    conv => whnf
    refine ⟨hol, ht, h1', ?_⟩
    conv => whnf
    refine ⟨rfl, hol, _, hrow, ?_⟩
    conv => whnf
    exact ⟨[], [0, 1, 2, 3], [Go.Rx.I w.outs[w.taken.toNat]], [Go.Rx.I w.outs[w.taken.toNat]], rfl, rfl, rfl, wk_refl _, by rw [ho]; rfl⟩
  · have h1' : ¬ w.taken < (w.outs.length : Int) := of_decide_eq_false h1
    have ho : outW w = 0 := by rw [outW, if_neg h1']
    exact ⟨[], [0, 1, 2, 3], [Go.Rx.I 0], [Go.Rx.I 0], rfl, rfl, rfl, wk_refl _, by rw [ho]; rfl⟩
end Go.Proofs.YtfjllfjmggooeaaGreatDoor.Rx

/- A step's call, walked. -/
set_option linter.unusedVariables false
set_option linter.unusedSimpArgs false
namespace Go.Rx
def pl10 : Pl := .one 0 (.one 1 (.one 3 (.two 2 (listPl [4, 5, 6, 7, 8]) 4 (.one 5 (.two 2 (listPl [6, 7, 8]) 6 (listPl [2, 7, 8]))))))
def pl12 : Pl := .one 3 (.fre 2 (.three 0 (.two 1 (listPl [4, 5, 6, 7, 8, 9, 10, 11, 12]) 4 (listPl [1, 5, 6, 7, 8, 9, 10, 11, 12])) 1 (.two 0 (listPl [4, 5, 6, 7, 8, 9, 10, 11, 12]) 4 (listPl [0, 5, 6, 7, 8, 9, 10, 11, 12])) 4 (listPl [0, 1, 5, 6, 7, 8, 9, 10, 11, 12])))
end Go.Rx
namespace Go.Proofs.YtfjllfjmggooeaaGreatDoor.Rx
open Go.Rx Go.Proofs Go.Proofs.YtfjllfjmggooeaaGreatDoor.RxH
set_option maxHeartbeats 1000000 in
theorem calledF_con (w : Wd) (id : Int) (key body : ByteArray) (steps : List Step) (done : Int) (out : Bool) (left status : Int) (h : CallOk w ⟨id, key, body, steps, done, out, false, left, status⟩) (he : (doneAt w ⟨id, key, body, steps, done, out, false, left, status⟩).2.2 = 0) :
    ConG P 140 (mvB w) [.lf (.ptr 0 0), encSaga ⟨id, key, body, steps, done, out, false, left, status⟩] (.tup [.lf (.pv (pI (doneAt w ⟨id, key, body, steps, done, out, false, left, status⟩).2.1)), nilT]) (mvB (calledW w ⟨id, key, body, steps, done, out, false, left, status⟩)) := by
  have h0 := h.at0
  have h1 := h.at1
  have hsv := h.sv
  have hgl := h.gl
  have hcw : calledW w ⟨id, key, body, steps, done, out, false, left, status⟩ = { w with ledgers := w.ledgers.set ((stepAt ⟨id, key, body, steps, done, out, false, left, status⟩).service - 1).toNat (doneAt w ⟨id, key, body, steps, done, out, false, left, status⟩).1, taken := IntKind.i64.wrap (w.taken + 1) } := rfl
  have hd : doneAt w ⟨id, key, body, steps, done, out, false, left, status⟩ = doL (ledgAt w ⟨id, key, body, steps, done, out, false, left, status⟩) ⟨callKey id done, false, (stepAt ⟨id, key, body, steps, done, out, false, left, status⟩).op, (stepAt ⟨id, key, body, steps, done, out, false, left, status⟩).who, (stepAt ⟨id, key, body, steps, done, out, false, left, status⟩).n⟩ false (outW w) := rfl
  have hla : ledgAt w ⟨id, key, body, steps, done, out, false, left, status⟩ = (w.ledgers[((stepAt ⟨id, key, body, steps, done, out, false, left, status⟩).service - 1).toNat]?).getD zL := rfl
  have hsa : stepAt ⟨id, key, body, steps, done, out, false, left, status⟩ = (steps[done.toNat]?).getD zStep := rfl
  rw [hcw]
  have hdl : done.toNat < steps.length := by
    have e : stepI ⟨id, key, body, steps, done, out, false, left, status⟩ = done := rfl
    rw [e] at h0 h1
    show done.toNat < steps.length
    have h1' : done < (steps.length : Int) := h1
    omega
  have h00 : 0 ≤ done := h0
  rw [List.getElem?_eq_getElem hdl] at hsa
  have hrow : (steps.map Step.enc)[done.toNat]? = some (steps[done.toNat]).enc := by simp [hdl]
  have hsa' : stepAt ⟨id, key, body, steps, done, out, false, left, status⟩ = steps[done.toNat] := hsa
  rw [hsa'] at hsv hd hla ⊢
  generalize steps[done.toNat] = st at hrow hsv hd hla
  have hgi : (st.service - 1).toNat < w.ledgers.length := by omega
  have hws : IntKind.i64.wrap (st.service - 1) = st.service - 1 := wrapI (by omega)
  have hgrow : (w.ledgers.map Ledger.enc)[(st.service - 1).toNat]? = some (w.ledgers[(st.service - 1).toNat]).enc := by rw [List.getElem?_map, List.getElem?_eq_getElem hgi]; rfl
  rw [List.getElem?_eq_getElem hgi] at hla
  have hla' : ledgAt w ⟨id, key, body, steps, done, out, false, left, status⟩ = w.ledgers[(st.service - 1).toNat] := hla
  rw [hla'] at hd
  have hok := h.ok _ (List.getElem_mem hgi)
  have hsrt := h.srt _ (List.getElem_mem hgi)
  generalize w.ledgers[(st.service - 1).toNat] = g at hgrow hd hok hsrt
  have cd := doQ_con g hok hsrt ⟨callKey id done, false, st.op, st.who, st.n⟩ false (outW w)
  rw [← hd] at cd
  have co := out_con w h.taken
  generalize doneAt w ⟨id, key, body, steps, done, out, false, left, status⟩ = d at he cd
  obtain ⟨g', a, e⟩ := d
  simp only at he
  subst he
  have hml : (w.ledgers.map Ledger.enc).length = w.ledgers.length := List.length_map ..
  refine ConG.of T_ok Tryz.func140 rfl (by kernel_rfl) (by kernel_rfl) (aw_ofC T_ok 2012 (by kernel_rfl) ?_)
  conv => whnf
  refine ⟨h00, _, hrow, ?_⟩
  conv => whnf
  refine callS (pair_con' id done) rfl ?_
  conv => whnf
  refine AW.draw T_ok rfl (seqPl 0 12) (by kernel_rfl) (by kernel_rfl) ?_
  conv => whnf
  refine ⟨hml, by rw [hws]; omega, by rw [hws]; omega, ?_⟩
  conv => whnf
  refine ⟨rfl, hml, _, by rw [hws]; exact hgrow, ?_⟩
  conv => whnf
  refine AW.cut (fun _ : Unit => True) (fun _ => [(0, .lf (.ptr 0 0)), (7, .lf (.ptr 5 0)), (11, .lf (.ptr 7 0)), (13, Go.Rx.I a), (14, Go.Rx.I 0)])
    (fun _ => mvB w ++ [.var [.pv (pI id), .pv (pS key), .pv (pS body), .pv (encSteps steps), .pv (pI done), .pv (pB out), .pv (pB false), .pv (pI left), .pv (pI status)],
      .var [.pv (pS st.nm), .pv (pI st.service), .pv (pS st.op), .pv (pS st.undo), .pv (pS st.who), .pv (pI st.n)],
      .var [.pv (pI (callKey id done)), .pv (pB false), .pv (pS st.op), .pv (pS st.who), .pv (pI st.n)], ledgerV g']) [] ?_ ?_
  · refine aw_of T_ok (by kernel_rfl) ?_
    conv => whnf
    refine AW.draw T_ok rfl pl12 (by kernel_rfl) (by kernel_rfl) ?_
    conv => whnf
    refine ⟨?_, ?_, ?_⟩ <;> conv => whnf
    · refine ⟨?_, ?_⟩ <;> conv => whnf
      · refine ⟨[0, 1, 2, 3], _, _, _, _, _, nodupB_ok rfl, rfl, rfl, wk_refl _, co, ?_⟩
        conv => whnf
        refine callU cd (fun _ => rfl) ?_
        conv => whnf
        exact ⟨(), trivial, ⟨rfl, rfl, rfl, rfl, rfl, trivial⟩, ⟨[], rfl⟩, rfl, rfl⟩
      · refine ⟨[0, 1, 2, 3], _, _, _, _, _, nodupB_ok rfl, rfl, rfl, wk_refl _, co, ?_⟩
        conv => whnf
        refine callU cd (fun _ => rfl) ?_
        conv => whnf
        exact ⟨(), trivial, ⟨rfl, rfl, rfl, rfl, rfl, trivial⟩, ⟨[], rfl⟩, rfl, rfl⟩
    · refine ⟨?_, ?_⟩ <;> conv => whnf
      · refine ⟨[0, 1, 2, 3], _, _, _, _, _, nodupB_ok rfl, rfl, rfl, wk_refl _, co, ?_⟩
        conv => whnf
        refine callU cd (fun _ => rfl) ?_
        conv => whnf
        exact ⟨(), trivial, ⟨rfl, rfl, rfl, rfl, rfl, trivial⟩, ⟨[], rfl⟩, rfl, rfl⟩
      · refine ⟨[0, 1, 2, 3], _, _, _, _, _, nodupB_ok rfl, rfl, rfl, wk_refl _, co, ?_⟩
        conv => whnf
        refine callU cd (fun _ => rfl) ?_
        conv => whnf
        exact ⟨(), trivial, ⟨rfl, rfl, rfl, rfl, rfl, trivial⟩, ⟨[], rfl⟩, rfl, rfl⟩
    · refine ⟨[0, 1, 2, 3], _, _, _, _, _, nodupB_ok rfl, rfl, rfl, wk_refl _, co, ?_⟩
      conv => whnf
      refine callU cd (fun _ => rfl) ?_
      conv => whnf
      exact ⟨(), trivial, ⟨rfl, rfl, rfl, rfl, rfl, trivial⟩, ⟨[], rfl⟩, rfl, rfl⟩
  rintro _ _
  refine aw_of T_ok (by kernel_rfl) ?_
  conv => whnf
  refine AW.draw T_ok rfl (seqPl 0 11) (by kernel_rfl) (by kernel_rfl) ?_
  conv => whnf
  refine ⟨hml, by rw [hws]; omega, by rw [hws]; omega, ?_⟩
  conv => whnf
  refine ⟨rfl, hml, _, by rw [hws]; exact hgrow, ?_⟩
  conv => whnf
  refine ⟨by decide, ?_⟩
  conv => whnf
  refine ⟨[], [0, 1, 2, 3], [Go.Rx.I a, nilI], [Go.Rx.I a, nilI], rfl, ?zend, rfl, wk_refl _, rfl⟩
  have e1 : (w.ledgers.set (st.service - 1).toNat g').map Ledger.enc = (w.ledgers.map Ledger.enc).set (IntKind.i64.wrap (st.service - 1)).toNat g'.enc := by rw [hws]; exact List.map_set
  have e2 : (w.ledgers.set (st.service - 1).toNat g').length = w.ledgers.length := List.length_set
  show _ = some [Blk.var [.pv (pI w.clock), .pv (pS w.file.safe), .pv (pS w.file.tail), .pv (pI w.file.cap), .own 1 (w.ledgers.set (st.service - 1).toNat g').length, .own 2 w.lives.length, .own 3 w.outs.length, .pv (pI (IntKind.i64.wrap (w.taken + 1)))],
    .arr 47 3 ((w.ledgers.set (st.service - 1).toNat g').map Ledger.enc), .arr 44 18 (w.lives.map Live.enc), .arr 3 1 (intRows w.outs)]
  rw [e1, e2]
  rfl
end Go.Proofs.YtfjllfjmggooeaaGreatDoor.Rx

/- A step's call back, walked. -/
set_option linter.unusedVariables false
set_option linter.unusedSimpArgs false
namespace Go.Proofs.YtfjllfjmggooeaaGreatDoor.Rx
open Go.Rx Go.Proofs Go.Proofs.YtfjllfjmggooeaaGreatDoor.RxH
set_option maxHeartbeats 1000000 in
theorem calledT_con (w : Wd) (id : Int) (key body : ByteArray) (steps : List Step) (done : Int) (out : Bool) (left status : Int) (h : CallOk w ⟨id, key, body, steps, done, out, true, left, status⟩) (he : (doneAt w ⟨id, key, body, steps, done, out, true, left, status⟩).2.2 = 0) :
    ConG P 140 (mvB w) [.lf (.ptr 0 0), encSaga ⟨id, key, body, steps, done, out, true, left, status⟩] (.tup [.lf (.pv (pI (doneAt w ⟨id, key, body, steps, done, out, true, left, status⟩).2.1)), nilT]) (mvB (calledW w ⟨id, key, body, steps, done, out, true, left, status⟩)) := by
  have h0 := h.at0
  have h1 := h.at1
  have hsv := h.sv
  have hgl := h.gl
  have hcw : calledW w ⟨id, key, body, steps, done, out, true, left, status⟩ = { w with ledgers := w.ledgers.set ((stepAt ⟨id, key, body, steps, done, out, true, left, status⟩).service - 1).toNat (doneAt w ⟨id, key, body, steps, done, out, true, left, status⟩).1, taken := IntKind.i64.wrap (w.taken + 1) } := rfl
  have hd : doneAt w ⟨id, key, body, steps, done, out, true, left, status⟩ = doL (ledgAt w ⟨id, key, body, steps, done, out, true, left, status⟩) ⟨undoKey id (IntKind.i64.wrap (left - 1)), true, (stepAt ⟨id, key, body, steps, done, out, true, left, status⟩).undo, (stepAt ⟨id, key, body, steps, done, out, true, left, status⟩).who, (stepAt ⟨id, key, body, steps, done, out, true, left, status⟩).n⟩ (!(doneB (ledgAt w ⟨id, key, body, steps, done, out, true, left, status⟩).entries (callKey id (IntKind.i64.wrap (left - 1))))) (outW w) := rfl
  have hla : ledgAt w ⟨id, key, body, steps, done, out, true, left, status⟩ = (w.ledgers[((stepAt ⟨id, key, body, steps, done, out, true, left, status⟩).service - 1).toNat]?).getD zL := rfl
  have hsa : stepAt ⟨id, key, body, steps, done, out, true, left, status⟩ = (steps[(IntKind.i64.wrap (left - 1)).toNat]?).getD zStep := rfl
  rw [hcw]
  have e : stepI ⟨id, key, body, steps, done, out, true, left, status⟩ = IntKind.i64.wrap (left - 1) := rfl
  rw [e] at h0 h1
  have h1' : IntKind.i64.wrap (left - 1) < (steps.length : Int) := h1
  have h00 : 0 ≤ IntKind.i64.wrap (left - 1) := h0
  obtain ⟨ix, hix⟩ : ∃ ix, ix = IntKind.i64.wrap (left - 1) := ⟨_, rfl⟩
  rw [← hix] at hd hsa h00 h1'
  have hdl : ix.toNat < steps.length := by omega
  rw [List.getElem?_eq_getElem hdl] at hsa
  have hrow : (steps.map Step.enc)[ix.toNat]? = some (steps[ix.toNat]).enc := by simp [hdl]
  have hsa' : stepAt ⟨id, key, body, steps, done, out, true, left, status⟩ = steps[ix.toNat] := hsa
  rw [hsa'] at hsv hd hla ⊢
  generalize steps[ix.toNat] = st at hrow hsv hd hla
  have hgi : (st.service - 1).toNat < w.ledgers.length := by omega
  have hws : IntKind.i64.wrap (st.service - 1) = st.service - 1 := wrapI (by omega)
  have hgrow : (w.ledgers.map Ledger.enc)[(st.service - 1).toNat]? = some (w.ledgers[(st.service - 1).toNat]).enc := by rw [List.getElem?_map, List.getElem?_eq_getElem hgi]; rfl
  rw [List.getElem?_eq_getElem hgi] at hla
  have hla' : ledgAt w ⟨id, key, body, steps, done, out, true, left, status⟩ = w.ledgers[(st.service - 1).toNat] := hla
  rw [hla'] at hd
  have hok := h.ok _ (List.getElem_mem hgi)
  have hsrt := h.srt _ (List.getElem_mem hgi)
  generalize w.ledgers[(st.service - 1).toNat] = g at hgrow hd hok hsrt
  have cd := doQ_con g hok hsrt ⟨undoKey id ix, true, st.undo, st.who, st.n⟩ (!(doneB g.entries (callKey id ix))) (outW w)
  have cn := done_con g hok (callKey id ix)
  rw [← hd] at cd
  have co := out_con w h.taken
  generalize doneAt w ⟨id, key, body, steps, done, out, true, left, status⟩ = d at he cd
  obtain ⟨g', a, e⟩ := d
  simp only at he
  subst he
  have hml : (w.ledgers.map Ledger.enc).length = w.ledgers.length := List.length_map ..
  refine ConG.of T_ok Tryz.func140 rfl (by kernel_rfl) (by kernel_rfl) (aw_ofC T_ok 1009 (by kernel_rfl) ?_)
  conv => whnf
  refine ⟨by rw [← hix]; exact h00, _, by rw [← hix]; exact hrow, ?_⟩
  conv => whnf
  refine callS (pair_con' id (IntKind.i64.wrap (left - 1))) rfl ?_
  conv => whnf
  refine AW.draw T_ok rfl (seqPl 0 12) (by kernel_rfl) (by kernel_rfl) ?_
  conv => whnf
  refine ⟨hml, by rw [hws]; omega, by rw [hws]; omega, ?_⟩
  conv => whnf
  refine ⟨rfl, hml, _, by rw [hws]; exact hgrow, ?_⟩
  conv => whnf
  refine AW.cut (fun _ : Unit => True) (fun _ => [(0, .lf (.ptr 0 0)), (7, .lf (.ptr 5 0)), (10, .lf (.ptr 6 0)), (11, .lf (.ptr 7 0)), (12, Bl (!(doneB g.entries (callKey id ix))))])
    (fun _ => mvB w ++ [.var [.pv (pI id), .pv (pS key), .pv (pS body), .pv (encSteps steps), .pv (pI done), .pv (pB out), .pv (pB true), .pv (pI left), .pv (pI status)],
      .var [.pv (pS st.nm), .pv (pI st.service), .pv (pS st.op), .pv (pS st.undo), .pv (pS st.who), .pv (pI st.n)],
      .var [.pv (pI (undoKey id ix)), .pv (pB true), .pv (pS st.undo), .pv (pS st.who), .pv (pI st.n)], ledgerV g]) [] ?_ ?_
  · refine aw_of T_ok (by kernel_rfl) ?_
    conv => whnf
    refine AW.draw T_ok rfl pl10 (by kernel_rfl) (by kernel_rfl) ?_
    conv => whnf
    rw [← hix]
    refine ⟨?_, ?_⟩ <;> conv => whnf
    · refine callS cn rfl ?_
      conv => whnf
      exact ⟨(), trivial, ⟨rfl, rfl, rfl, rfl, rfl, trivial⟩, ⟨[], rfl⟩, rfl, rfl⟩
    · refine ⟨?_, ?_⟩ <;> conv => whnf
      · refine callS cn rfl ?_
        conv => whnf
        exact ⟨(), trivial, ⟨rfl, rfl, rfl, rfl, rfl, trivial⟩, ⟨[], rfl⟩, rfl, rfl⟩
      · refine callS cn rfl ?_
        conv => whnf
        exact ⟨(), trivial, ⟨rfl, rfl, rfl, rfl, rfl, trivial⟩, ⟨[], rfl⟩, rfl, rfl⟩
  rintro _ _
  refine aw_ofC T_ok 2012 (by kernel_rfl) ?_
  conv => whnf
  refine AW.cut (fun _ : Unit => True) (fun _ => [(0, .lf (.ptr 0 0)), (7, .lf (.ptr 5 0)), (11, .lf (.ptr 7 0)), (13, Go.Rx.I a), (14, Go.Rx.I 0)])
    (fun _ => mvB w ++ [.var [.pv (pI id), .pv (pS key), .pv (pS body), .pv (encSteps steps), .pv (pI done), .pv (pB out), .pv (pB true), .pv (pI left), .pv (pI status)],
      .var [.pv (pS st.nm), .pv (pI st.service), .pv (pS st.op), .pv (pS st.undo), .pv (pS st.who), .pv (pI st.n)],
      .var [.pv (pI (undoKey id ix)), .pv (pB true), .pv (pS st.undo), .pv (pS st.who), .pv (pI st.n)], ledgerV g']) [] ?_ ?_
  · refine aw_of T_ok (by kernel_rfl) ?_
    conv => whnf
    refine AW.draw T_ok rfl pl12 (by kernel_rfl) (by kernel_rfl) ?_
    conv => whnf
    refine ⟨?_, ?_, ?_⟩ <;> conv => whnf
    · refine ⟨?_, ?_⟩ <;> conv => whnf
      · refine ⟨[0, 1, 2, 3], _, _, _, _, _, nodupB_ok rfl, rfl, rfl, wk_refl _, co, ?_⟩
        conv => whnf
        refine callU cd (fun _ => rfl) ?_
        conv => whnf
        exact ⟨(), trivial, ⟨rfl, rfl, rfl, rfl, rfl, trivial⟩, ⟨[], rfl⟩, rfl, rfl⟩
      · refine ⟨[0, 1, 2, 3], _, _, _, _, _, nodupB_ok rfl, rfl, rfl, wk_refl _, co, ?_⟩
        conv => whnf
        refine callU cd (fun _ => rfl) ?_
        conv => whnf
        exact ⟨(), trivial, ⟨rfl, rfl, rfl, rfl, rfl, trivial⟩, ⟨[], rfl⟩, rfl, rfl⟩
    · refine ⟨?_, ?_⟩ <;> conv => whnf
      · refine ⟨[0, 1, 2, 3], _, _, _, _, _, nodupB_ok rfl, rfl, rfl, wk_refl _, co, ?_⟩
        conv => whnf
        refine callU cd (fun _ => rfl) ?_
        conv => whnf
        exact ⟨(), trivial, ⟨rfl, rfl, rfl, rfl, rfl, trivial⟩, ⟨[], rfl⟩, rfl, rfl⟩
      · refine ⟨[0, 1, 2, 3], _, _, _, _, _, nodupB_ok rfl, rfl, rfl, wk_refl _, co, ?_⟩
        conv => whnf
        refine callU cd (fun _ => rfl) ?_
        conv => whnf
        exact ⟨(), trivial, ⟨rfl, rfl, rfl, rfl, rfl, trivial⟩, ⟨[], rfl⟩, rfl, rfl⟩
    · refine ⟨[0, 1, 2, 3], _, _, _, _, _, nodupB_ok rfl, rfl, rfl, wk_refl _, co, ?_⟩
      conv => whnf
      refine callU cd (fun _ => rfl) ?_
      conv => whnf
      exact ⟨(), trivial, ⟨rfl, rfl, rfl, rfl, rfl, trivial⟩, ⟨[], rfl⟩, rfl, rfl⟩
  rintro _ _
  refine aw_of T_ok (by kernel_rfl) ?_
  conv => whnf
  refine AW.draw T_ok rfl (seqPl 0 11) (by kernel_rfl) (by kernel_rfl) ?_
  conv => whnf
  refine ⟨hml, by rw [hws]; omega, by rw [hws]; omega, ?_⟩
  conv => whnf
  refine ⟨rfl, hml, _, by rw [hws]; exact hgrow, ?_⟩
  conv => whnf
  refine ⟨by decide, ?_⟩
  conv => whnf
  refine ⟨[], [0, 1, 2, 3], [Go.Rx.I a, nilI], [Go.Rx.I a, nilI], rfl, ?zend, rfl, wk_refl _, rfl⟩
  have e1 : (w.ledgers.set (st.service - 1).toNat g').map Ledger.enc = (w.ledgers.map Ledger.enc).set (IntKind.i64.wrap (st.service - 1)).toNat g'.enc := by rw [hws]; exact List.map_set
  have e2 : (w.ledgers.set (st.service - 1).toNat g').length = w.ledgers.length := List.length_set
  show _ = some [Blk.var [.pv (pI w.clock), .pv (pS w.file.safe), .pv (pS w.file.tail), .pv (pI w.file.cap), .own 1 (w.ledgers.set (st.service - 1).toNat g').length, .own 2 w.lives.length, .own 3 w.outs.length, .pv (pI (IntKind.i64.wrap (w.taken + 1)))],
    .arr 47 3 ((w.ledgers.set (st.service - 1).toNat g').map Ledger.enc), .arr 44 18 (w.lives.map Live.enc), .arr 3 1 (intRows w.outs)]
  rw [e1, e2]
  rfl
end Go.Proofs.YtfjllfjmggooeaaGreatDoor.Rx

/- A step: what an answer leads to. -/
set_option linter.unusedVariables false
set_option linter.unusedSimpArgs false
namespace Go.Rx
abbrev recT (r : Rec) : TC := .agg [.pv (pI r.kind), .pv (pI r.id), .pv (pI r.n), .pv (pS r.key), .pv (pS r.body), .pv (encSteps r.steps)]
abbrev recN (k id n : Int) : AV := .agg [.pv (pI k), .pv (pI id), .pv (pI n), .pv (pS ⟨#[]⟩), .pv (pS ⟨#[]⟩), .pv (.sc (.slice none 0 0))]
theorem wkRec (k id n : Int) (b : Bool) : Fa WkA [recN k id n, Bl b] [encRec ⟨k, id, n, ⟨#[]⟩, ⟨#[]⟩, []⟩, Bl b] :=
  ⟨.inr (.inr ⟨_, _, rfl, rfl, .inl rfl, .inl rfl, .inl rfl, .inl rfl, .inl rfl, wkN 6, trivial⟩), .inl rfl, trivial⟩
end Go.Rx
namespace Go.Proofs.YtfjllfjmggooeaaGreatDoor.Rx
open Go.Rx Go.Proofs Go.Proofs.YtfjllfjmggooeaaGreatDoor.RxH
theorem called_con (w : Wd) (s : Saga) (h : CallOk w s) (he : (doneAt w s).2.2 = 0) :
    ConG P 140 (mvB w) [.lf (.ptr 0 0), encSaga s] (.tup [.lf (.pv (pI (doneAt w s).2.1)), nilT]) (mvB (calledW w s)) := by
  obtain ⟨id, key, body, steps, done, out, back, left, status⟩ := s
  cases back with
  | false => exact calledF_con w id key body steps done out left status h he
  | true => exact calledT_con w id key body steps done out left status h he
/-- The world with a live turned. -/
abbrev setLive (w : Wd) (i : Nat) (v : Live) : Wd := { w with lives := w.lives.set i v }
theorem answered_con (w : Wd) (i : Nat) (v : Live) (a : Int) (hi : w.lives[i]? = some v) (ht : -1 ≤ v.tries ∧ v.tries ≤ 4611686018427387903) :
    ConG P 141 (mvB w) [.lf (.ptr 0 0), .lf (.ept 2 w.lives.length i 18 0), Go.Rx.I a] (.tup [recT (answeredL w.clock v a).2.1, .lf (.pv (pB (answeredL w.clock v a).2.2))]) (mvB (setLive w i (answeredL w.clock v a).1)) := by
  have hml : (w.lives.map Live.enc).length = w.lives.length := List.length_map ..
  have hrow : (w.lives.map Live.enc)[i]? = some v.enc := by rw [List.getElem?_map, hi]; rfl
  have hil : i < w.lives.length := (List.getElem?_eq_some_iff.1 hi).1
  have hset : ∀ r, ((w.lives.map Live.enc).set i r)[i]? = some r := fun r => List.getElem?_set_self (by rw [hml]; exact hil)
  have hsl : ∀ r, ((w.lives.map Live.enc).set i r).length = w.lives.length := fun r => by rw [List.length_set, hml]
  have hm2 : ∀ v' : Live, (w.lives.set i v').map Live.enc = (w.lives.map Live.enc).set i v'.enc := fun v' => List.map_set
  have hl2 : ∀ v' : Live, (w.lives.set i v').length = w.lives.length := fun v' => List.length_set
  have hB : ∀ v' : Live, [Blk.var [.pv (pI w.clock), .pv (pS w.file.safe), .pv (pS w.file.tail), .pv (pI w.file.cap), .own 1 w.ledgers.length, .own 2 w.lives.length, .own 3 w.outs.length, .pv (pI w.taken)],
      .arr 47 3 (w.ledgers.map Ledger.enc), .arr 44 18 ((w.lives.map Live.enc).set i v'.enc), .arr 3 1 (intRows w.outs)] = mvB (setLive w i v') := fun v' => by
    show _ = [Blk.var [.pv (pI w.clock), .pv (pS w.file.safe), .pv (pS w.file.tail), .pv (pI w.file.cap), .own 1 w.ledgers.length, .own 2 (w.lives.set i v').length, .own 3 w.outs.length, .pv (pI w.taken)],
      .arr 47 3 (w.ledgers.map Ledger.enc), .arr 44 18 ((w.lives.set i v').map Live.enc), .arr 3 1 (intRows w.outs)]
    rw [hm2, hl2]
  have hsame : (w.lives.map Live.enc).set i v.enc = w.lives.map Live.enc := by
    rw [← hm2]
    have : w.lives.set i v = w.lives := by
      obtain ⟨h1, h2⟩ := List.getElem?_eq_some_iff.1 hi
      rw [← h2]
      exact List.set_getElem_self h1
    rw [this]
  obtain ⟨q, hq⟩ : ∃ q, q = answeredL w.clock v a := ⟨_, rfl⟩
  rw [← hq]
  obtain ⟨⟨id, key, body, steps, done, out, back, left, status⟩, tries, due, write, put⟩ := v
  refine ConG.of T_ok Tryz.func141 rfl (by kernel_rfl) (by kernel_rfl) (aw_of T_ok (by kernel_rfl) ?_)
  conv => whnf
  refine ⟨hml, hml, rfl, hml, _, hrow, ?_⟩
  conv => whnf
  split <;> rename_i h1 <;> conv => whnf
  · have ha : a = 2 := by simpa using h1
    refine ⟨hml, hml, rfl, hml, _, hrow, ?_⟩
    conv => whnf
    refine ⟨hml, hml, rfl, hml, _, hrow, by decide, ?_⟩
    conv => whnf
    have hwt : IntKind.i64.wrap (tries + 1) = tries + 1 := wrapI (by have := ht; simp only at this; omega)
    have ct := long_con (IntKind.i64.wrap (tries + 1)) (by rw [hwt]; have := ht.1; simp only at this; omega) (by rw [hwt]; have := ht.2; simp only at this; omega)
    cases back with
    | true =>
      have hq' : q = (⟨⟨id, key, body, steps, done, out, true, left, status⟩, IntKind.i64.wrap (tries + 1), IntKind.i64.wrap (w.clock + longI (IntKind.i64.wrap (tries + 1))), write, put⟩, zRec, false) := by
        rw [hq, answeredL]; simp only; rw [if_pos ha]; rfl
      subst hq'
      conv => whnf
      refine AW.draw T_ok rfl (seqPl 0 15) (by kernel_rfl) (by kernel_rfl) ?_
      conv => whnf
      refine ⟨hsl _, hsl _, rfl, hsl _, _, hset _, ?_⟩
      conv => whnf
      refine callS ct rfl ?_
      conv => whnf
      refine ⟨hsl _, hsl _, rfl, hsl _, _, hset _, by decide, ?_⟩
      conv => whnf
      refine ⟨[], [0, 1, 2, 3], [encRec zRec, Bl false], [recN 0 0 0, Bl false], rfl, ?za, rfl, wkRec 0 0 0 false, rfl⟩
      rw [← hB]
      show some [_, _, Blk.arr _ 18 ((_ : List (List PV)).set i _ |>.set i _), _] = _
      rw [List.set_set]
      rfl
    | false =>
      conv => whnf
      refine ⟨hsl _, hsl _, rfl, hsl _, _, hset _, ?_⟩
      conv => whnf
      split <;> rename_i h2 <;> conv => whnf
      · have h2' : decide (IntKind.i64.wrap (tries + 1) < 4) = true := h2
        have hq' : q = (⟨⟨id, key, body, steps, done, out, false, left, status⟩, IntKind.i64.wrap (tries + 1), IntKind.i64.wrap (w.clock + longI (IntKind.i64.wrap (tries + 1))), write, put⟩, zRec, false) := by
          rw [hq, answeredL]; simp only; rw [if_pos ha, if_pos (by rw [h2']; rfl)]
        subst hq'
        conv => whnf
        refine AW.draw T_ok rfl (seqPl 0 15) (by kernel_rfl) (by kernel_rfl) ?_
        conv => whnf
        refine ⟨hsl _, hsl _, rfl, hsl _, _, hset _, ?_⟩
        conv => whnf
        refine callS ct rfl ?_
        conv => whnf
        refine ⟨hsl _, hsl _, rfl, hsl _, _, hset _, by decide, ?_⟩
        conv => whnf
        refine ⟨[], [0, 1, 2, 3], [encRec zRec, Bl false], [recN 0 0 0, Bl false], rfl, ?zb, rfl, wkRec 0 0 0 false, rfl⟩
        rw [← hB]
        show some [_, _, Blk.arr _ 18 ((_ : List (List PV)).set i _ |>.set i _), _] = _
        rw [List.set_set]
        rfl
      · have h2' : decide (IntKind.i64.wrap (tries + 1) < 4) = false := h2
        have hq' : q = (⟨⟨id, key, body, steps, done, out, false, left, status⟩, IntKind.i64.wrap (tries + 1), due, write, put⟩, ⟨4, id, 0, ⟨#[]⟩, ⟨#[]⟩, []⟩, true) := by
          rw [hq, answeredL]; simp only; rw [if_pos ha, if_neg (by rw [h2']; decide)]; rfl
        subst hq'
        conv => whnf
        refine ⟨[], [0, 1, 2, 3], [encRec ⟨4, id, 0, ⟨#[]⟩, ⟨#[]⟩, []⟩, Bl true], [recN 4 id 0, Bl true], rfl, ?zc, rfl, wkRec _ _ _ _, rfl⟩
        rw [← hB]
        rfl
  · have ha : ¬ a = 2 := by simpa using h1
    split <;> rename_i h3 <;> conv => whnf
    · have hb : a = 1 := by simpa using h3
      cases back with
      | true =>
        have hq' : q = (⟨⟨id, key, body, steps, done, out, true, left, status⟩, tries, due, write, put⟩, ⟨6, id, 3, ⟨#[]⟩, ⟨#[]⟩, []⟩, true) := by
          rw [hq, answeredL]; simp only; rw [if_neg ha, if_neg (fun h => by cases h.2), if_pos hb]; rfl
        subst hq'
        conv => whnf
        split <;> rename_i h4 <;> conv => whnf
        · refine ⟨[], [0, 1, 2, 3], [encRec ⟨6, id, 3, ⟨#[]⟩, ⟨#[]⟩, []⟩, Bl true], [recN 6 id 3, Bl true], rfl, ?zd, rfl, wkRec _ _ _ _, rfl⟩
          rw [← hB, hsame]
          rfl
        · have h4' : (a == 1) = false := h4
          rw [hb] at h4'
          cases h4'
      | false =>
        have hq' : q = (⟨⟨id, key, body, steps, done, out, false, left, status⟩, tries, due, write, put⟩, ⟨4, id, 0, ⟨#[]⟩, ⟨#[]⟩, []⟩, true) := by
          rw [hq, answeredL]; simp only; rw [if_neg ha, if_pos (by first | exact ⟨hb, rfl⟩ | exact ⟨hb, trivial⟩)]; rfl
        subst hq'
        conv => whnf
        refine ⟨[], [0, 1, 2, 3], [encRec ⟨4, id, 0, ⟨#[]⟩, ⟨#[]⟩, []⟩, Bl true], [recN 4 id 0, Bl true], rfl, ?ze, rfl, wkRec _ _ _ _, rfl⟩
        rw [← hB, hsame]
        rfl
    · have hb : ¬ a = 1 := by simpa using h3
      split <;> rename_i h5 <;> conv => whnf
      · have h5' : (a == 1) = true := h5
        exact absurd (by simpa using h5') hb
      cases back with
      | true =>
        have hq' : q = (⟨⟨id, key, body, steps, done, out, true, left, status⟩, tries, due, write, put⟩, ⟨5, id, IntKind.i64.wrap (left - 1), ⟨#[]⟩, ⟨#[]⟩, []⟩, true) := by
          rw [hq, answeredL]; simp only; rw [if_neg ha, if_neg (fun h => by cases h.2), if_neg hb]; rfl
        subst hq'
        conv => whnf
        refine ⟨[], [0, 1, 2, 3], [encRec ⟨5, id, IntKind.i64.wrap (left - 1), ⟨#[]⟩, ⟨#[]⟩, []⟩, Bl true], [recN 5 id (IntKind.i64.wrap (left - 1)), Bl true], rfl, ?zf, rfl, wkRec _ _ _ _, rfl⟩
        rw [← hB, hsame]
        rfl
      | false =>
        have hq' : q = (⟨⟨id, key, body, steps, done, out, false, left, status⟩, tries, due, write, put⟩, ⟨3, id, done, ⟨#[]⟩, ⟨#[]⟩, []⟩, true) := by
          rw [hq, answeredL]; simp only; rw [if_neg ha, if_neg (fun h => hb h.1), if_neg hb]; rfl
        subst hq'
        conv => whnf
        refine ⟨[], [0, 1, 2, 3], [encRec ⟨3, id, done, ⟨#[]⟩, ⟨#[]⟩, []⟩, Bl true], [recN 3 id done, Bl true], rfl, ?zg, rfl, wkRec _ _ _ _, rfl⟩
        rw [← hB, hsame]
        rfl
end Go.Proofs.YtfjllfjmggooeaaGreatDoor.Rx

/- Rows weakened: a nil slice stands for no rows. -/
set_option linter.unusedVariables false
set_option linter.unusedSimpArgs false
namespace Go.Rx
open Go.RowKit
theorem wkP_refl (p : PV) : WkP p p := fun _ _ _ h => h
theorem wkP_nil (sz : Nat) : WkP (.sc (.slice none 0 0)) (.sl sz []) := fun S w v h => by
  cases h
  exact RepP.nil sz
theorem fa_reflX {α : Type} {R : α → α → Prop} (h : ∀ a, R a a) : ∀ l : List α, Fa R l l
  | [] => trivial
  | a :: l => ⟨h a, fa_reflX h l⟩
theorem fa_setX {α : Type} {R : α → α → Prop} (h : ∀ a, R a a) {a b : α} (hab : R a b) : ∀ (l : List α) (i : Nat), Fa R (l.set i a) (l.set i b)
  | [], _ => trivial
  | _ :: l, 0 => ⟨hab, fa_reflX h l⟩
  | x :: l, i + 1 => ⟨h x, fa_setX h hab l i⟩
theorem fa_get' {α : Type} {R : α → α → Prop} : ∀ {l m : List α}, Fa R l m → ∀ {i : Nat} {b : α}, m[i]? = some b → ∃ a, l[i]? = some a ∧ R a b
  | [], [], _, i, b, h => by simp at h
  | x :: l, y :: m, h, 0, b, e => ⟨x, rfl, by simp at e; exact e ▸ h.1⟩
  | x :: l, y :: m, h, i + 1, b, e => by simpa using fa_get' h.2 (i := i) (by simpa using e)
  | [], _ :: _, h, _, _, _ => h.elim
  | _ :: _, [], h, _, _, _ => h.elim
section
variable {P : Program} {C : Ctx} {G : Gh} {bk : List Blk} {w : World}
theorem Mem.wkArr (h : Mem C G bk w) {b e sz : Nat} {rows rows' : List (List PV)} (hb : bk[b]? = some (.arr e sz rows)) (hr : Fa (Fa WkP) rows rows') :
    Trn G bk w G (bk.set b (.arr e sz rows')) w ∧ Mem C G (bk.set b (.arr e sz rows')) w := by
  have hbl : b < bk.length := (List.getElem?_eq_some_iff.1 hb).1
  have hl : rows.length = rows'.length := hr.length
  have gb : (bk.set b (.arr e sz rows'))[b]? = some (.arr e sz rows') := List.getElem?_set_self hbl
  have g0 : ∀ i, i ≠ b → (bk.set b (.arr e sz rows'))[i]? = bk[i]? := fun i hn => List.getElem?_set_ne (Ne.symm hn)
  have hrb : rowsOf bk b = some (sz, rows) := by unfold rowsOf; rw [hb]
  have hro : ∀ i, i ≠ b → rowsOf (bk.set b (.arr e sz rows')) i = rowsOf bk i := fun i hn => by unfold rowsOf; rw [g0 i hn]
  have hrn : rowsOf (bk.set b (.arr e sz rows')) b = some (sz, rows') := by unfold rowsOf; rw [gb]
  have hal : ∀ i, Alive (bk.set b (.arr e sz rows')) i → Alive bk i := fun i ha => by
    by_cases hn : i = b
    · subst hn; unfold Alive; rw [hb]; trivial
    · unfold Alive at ha ⊢; rw [g0 i hn] at ha; exact ha
  have hlen : (bk.set b (.arr e sz rows')).length = bk.length := by simp
  have t : Trn G bk w G (bk.set b (.arr e sz rows')) w := by
    refine ⟨fun _ _ h => h, fun _ _ _ => rfl, by rw [hlen]; exact Nat.le_refl _, fun i hi hn => ?_, fun i s r hn => ?_⟩
    · have : i ≠ b := fun e0 => by subst e0; rw [hrb] at hn; cases hn
      exact ⟨by rw [hro i this]; exact hn, rfl⟩
    · by_cases e0 : i = b
      · subst e0
        rw [hrb] at hn
        cases hn
        exact ⟨rows', hrn, by omega, fun _ => ⟨rfl, rfl⟩⟩
      · exact ⟨r, by rw [hro i e0]; exact hn, Nat.le_refl _, fun _ => ⟨rfl, rfl⟩⟩
  refine ⟨t, ⟨fun i B hB => ?_, fun i j g hi hj => h.inj i j g (by rw [hlen] at hi; exact hi) (by rw [hlen] at hj; exact hj), fun g o i hs ha => h.sdis g o i hs (hal i ha), h.slt, fun i g hi => h.mlt i g (by rw [hlen] at hi; exact hi), fun i g hi => h.new i g (by rw [hlen] at hi; exact hi), h.s0, h.snew, h.os, h.tape, h.output, h.size, h.block, by rw [hlen]; exact h.mle, h.t0.trans t⟩⟩
  by_cases hn : i = b
  · subst hn
    rw [gb] at hB
    cases hB
    rcases h.blk i _ hb with ⟨h1, h2⟩ | ⟨g, cur, h1, h2, h3, h4, h5, h6⟩
    · subst h2
      exact .inl ⟨h1, List.eq_nil_of_length_eq_zero hl.symm⟩
    · refine .inr ⟨g, cur, h1, h2, h3, h4, by omega, fun j r' hj => ?_⟩
      obtain ⟨r, hj', hrr⟩ := fa_get' hr hj
      obtain ⟨k1, k2⟩ := h6 j r hj'
      refine ⟨by rw [← hrr.length]; exact k1, fun c p' hc => ?_⟩
      obtain ⟨p, hc', hp⟩ := fa_get' hrr hc
      obtain ⟨u, hu, hrep⟩ := k2 c p hc'
      exact ⟨u, hu, hp _ _ _ hrep⟩
  · rw [g0 i hn] at hB
    exact RepB.step t rfl rfl (fun _ _ => rfl) (h.blk i B hB)
theorem ConG.wk {f : FuncId} {B0 B1 : List Blk} {args : List AV} {r : AV} (hc : ConG P f B0 args r B1) {b e sz : Nat} {rows rows' : List (List PV)} (hb : B1[b]? = some (.arr e sz rows)) (hr : Fa (Fa WkP) rows rows') :
    ConG P f B0 args r (B1.set b (.arr e sz rows')) := by
  refine ⟨hc.1, fun w G0 us hm ha => (hc.2 w G0 us hm ha).mono ?_⟩
  rintro e' w' ⟨u, G', rfl, h1, h2⟩
  obtain ⟨t, m⟩ := h2.wkArr hb hr
  exact ⟨u, G', rfl, t.repA h1, m⟩
end
end Go.Rx

/- A step: a record written. -/
set_option linter.unusedVariables false
set_option linter.unusedSimpArgs false
namespace Go.Proofs.YtfjllfjmggooeaaGreatDoor.Rx
open Go.Rx Go.Proofs Go.Proofs.YtfjllfjmggooeaaGreatDoor.RxH
theorem mvSet (w : Wd) (i : Nat) (v' : Live) : [Blk.var [.pv (pI w.clock), .pv (pS w.file.safe), .pv (pS w.file.tail), .pv (pI w.file.cap), .own 1 w.ledgers.length, .own 2 w.lives.length, .own 3 w.outs.length, .pv (pI w.taken)],
      .arr 47 3 (w.ledgers.map Ledger.enc), .arr 44 18 ((w.lives.map Live.enc).set i v'.enc), .arr 3 1 (intRows w.outs)] = mvB (setLive w i v') := by
  have hm2 : (w.lives.set i v').map Live.enc = (w.lives.map Live.enc).set i v'.enc := List.map_set
  have hl2 : (w.lives.set i v').length = w.lives.length := List.length_set
  show _ = [Blk.var [.pv (pI w.clock), .pv (pS w.file.safe), .pv (pS w.file.tail), .pv (pI w.file.cap), .own 1 w.ledgers.length, .own 2 (w.lives.set i v').length, .own 3 w.outs.length, .pv (pI w.taken)],
      .arr 47 3 (w.ledgers.map Ledger.enc), .arr 44 18 ((w.lives.set i v').map Live.enc), .arr 3 1 (intRows w.outs)]
  rw [hm2, hl2]
/-- The record is appended. -/
theorem writtenA_con (w : Wd) (i : Nat) (v : Live) (hi : w.lives[i]? = some v) (hf : w.file.Ok) (hv : v.Ok) (hp : v.put = false) (he : (jappP w.file v.write).2 = 0) :
    ConG P 106 (mvB w) [.lf (.ptr 0 0), .lf (.ept 2 w.lives.length i 18 0)] nilI (mvB (setLive { w with file := (jappP w.file v.write).1 } i { v with put := true })) := by
  have hml : (w.lives.map Live.enc).length = w.lives.length := List.length_map ..
  have hrow : (w.lives.map Live.enc)[i]? = some v.enc := by rw [List.getElem?_map, hi]; rfl
  have ca := jappend_con w.file hf v.write hv.write
  generalize jappP w.file v.write = x at ca he
  obtain ⟨f', e⟩ := x
  simp only at he
  subst he
  rw [← mvSet]
  obtain ⟨s, tries, due, write, put⟩ := v
  simp only at hp
  subst hp
  refine ConG.of T_ok Tryz.func106 rfl (by kernel_rfl) (by kernel_rfl) (aw_of T_ok (by kernel_rfl) ?_)
  conv => whnf
  refine ⟨hml, hml, rfl, hml, _, hrow, ?_⟩
  conv => whnf
  refine AW.draw T_ok rfl (.one 0 (.one 1 (.one 2 (.one 3 (.one 4 (.one 5 (.one 6 (.one 7 (.one 8 (.two 9 (listPl [10, 11, 12, 13, 14, 15]) 13 (listPl [9, 10, 11, 12, 14, 15]))))))))))) (by kernel_rfl) (by kernel_rfl) ?_
  conv => whnf
  refine ⟨hml, hml, rfl, hml, _, hrow, ?_⟩
  conv => whnf
  refine ⟨?_, ?_⟩ <;> conv => whnf
  · refine callU ca (fun _ => rfl) ?_
    conv => whnf
    refine ⟨hml, hml, rfl, hml, _, hrow, by decide, ?_⟩
    conv => whnf
    exact ⟨[], [0, 1, 2, 3], [nilI], [nilI], rfl, rfl, rfl, wk_refl _, rfl⟩
  · refine callU ca (fun _ => rfl) ?_
    conv => whnf
    refine ⟨hml, hml, rfl, hml, _, hrow, by decide, ?_⟩
    conv => whnf
    exact ⟨[], [0, 1, 2, 3], [nilI], [nilI], rfl, rfl, rfl, wk_refl _, rfl⟩
/-- The record is synced, and applied. -/
theorem writtenS_con (w : Wd) (i : Nat) (v : Live) (hi : w.lives[i]? = some v) (hf : w.file.Ok) (hv : v.Ok) (hp : v.put = true) :
    ConG P 106 (mvB w) [.lf (.ptr 0 0), .lf (.ept 2 w.lives.length i 18 0)] nilI (mvB (setLive { w with file := (crashP w.file w.file.tail.size).1 } i ⟨nextS v.saga v.write, 0, w.clock, zRec, false⟩)) := by
  have hml : (w.lives.map Live.enc).length = w.lives.length := List.length_map ..
  have hrow : (w.lives.map Live.enc)[i]? = some v.enc := by rw [List.getElem?_map, hi]; rfl
  have hil : i < w.lives.length := (List.getElem?_eq_some_iff.1 hi).1
  have hset : ∀ r, ((w.lives.map Live.enc).set i r)[i]? = some r := fun r => List.getElem?_set_self (by rw [hml]; exact hil)
  have hsl : ∀ r, ((w.lives.map Live.enc).set i r).length = w.lives.length := fun r => by rw [List.length_set, hml]
  have cf := fsync_con w.file hf
  have cn := next_con v.saga v.write hv.saga.steps.len
  generalize crashP w.file w.file.tail.size = x at cf
  obtain ⟨f', e⟩ := x
  generalize nextS v.saga v.write = s' at cn
  rw [← mvSet]
  obtain ⟨s, tries, due, write, put⟩ := v
  simp only at hp
  subst hp
  have hrw : Fa WkP [pI s'.id, pS s'.key, pS s'.body, encSteps s'.steps, pI s'.done, pB s'.out, pB s'.back, pI s'.left, pI s'.status, pI 0, pI w.clock, pI 0, pI 0, pI 0, pS ⟨#[]⟩, pS ⟨#[]⟩, .sc (.slice none 0 0), pB false] (Live.enc ⟨s', 0, w.clock, zRec, false⟩) :=
    ⟨wkP_refl _, wkP_refl _, wkP_refl _, wkP_refl _, wkP_refl _, wkP_refl _, wkP_refl _, wkP_refl _, wkP_refl _, wkP_refl _, wkP_refl _, wkP_refl _, wkP_refl _, wkP_refl _, wkP_refl _, wkP_refl _, wkP_nil 6, wkP_refl _, trivial⟩
  have hwk : Fa (Fa WkP) ((w.lives.map Live.enc).set i [pI s'.id, pS s'.key, pS s'.body, encSteps s'.steps, pI s'.done, pB s'.out, pB s'.back, pI s'.left, pI s'.status, pI 0, pI w.clock, pI 0, pI 0, pI 0, pS ⟨#[]⟩, pS ⟨#[]⟩, .sc (.slice none 0 0), pB false]) ((w.lives.map Live.enc).set i (Live.enc ⟨s', 0, w.clock, zRec, false⟩)) := fa_setX (fun _ => fa_reflX wkP_refl _) hrw _ _
  refine ConG.wk (b := 2) (B1 := [Blk.var [.pv (pI w.clock), .pv (pS f'.safe), .pv (pS f'.tail), .pv (pI f'.cap), .own 1 w.ledgers.length, .own 2 w.lives.length, .own 3 w.outs.length, .pv (pI w.taken)],
      .arr 47 3 (w.ledgers.map Ledger.enc), .arr 44 18 ((w.lives.map Live.enc).set i [pI s'.id, pS s'.key, pS s'.body, encSteps s'.steps, pI s'.done, pB s'.out, pB s'.back, pI s'.left, pI s'.status, pI 0, pI w.clock, pI 0, pI 0, pI 0, pS ⟨#[]⟩, pS ⟨#[]⟩, .sc (.slice none 0 0), pB false]), .arr 3 1 (intRows w.outs)]) ?_ rfl hwk
  refine ConG.of T_ok Tryz.func106 rfl (by kernel_rfl) (by kernel_rfl) (aw_of T_ok (by kernel_rfl) ?_)
  conv => whnf
  refine ⟨hml, hml, rfl, hml, _, hrow, ?_⟩
  conv => whnf
  refine callU cf (fun _ => rfl) ?_
  conv => whnf
  refine AW.draw T_ok rfl (seqPl 0 13) (by kernel_rfl) (by kernel_rfl) ?_
  conv => whnf
  refine ⟨hml, hml, rfl, hml, _, hrow, ?_⟩
  conv => whnf
  refine ⟨hml, hml, rfl, hml, _, hrow, ?_⟩
  conv => whnf
  refine callU cn (fun _ => rfl) ?_
  conv => whnf
  refine ⟨hml, hml, rfl, hml, _, hrow, by decide, ?_⟩
  conv => whnf
  refine AW.draw T_ok rfl (seqPl 0 13) (by kernel_rfl) (by kernel_rfl) ?_
  conv => whnf
  refine ⟨hsl _, hsl _, rfl, hsl _, _, hset _, ?_⟩
  conv => whnf
  refine ⟨hsl _, rfl, hsl _, _, hset _, by decide, ?_⟩
  conv => whnf
  refine ⟨[], [0, 1, 2, 3], [nilI], [nilI], rfl, ?zz, rfl, wk_refl _, rfl⟩
  show some [_, _, Blk.arr _ 18 ((_ : List (List PV)).set i _ |>.set i _), _] = _
  rw [List.set_set]
  rfl
end Go.Proofs.YtfjllfjmggooeaaGreatDoor.Rx

/- A step: what comes next. -/
set_option linter.unusedVariables false
set_option linter.unusedSimpArgs false
namespace Go.Rx
abbrev Live.encN (v : Live) (k id n : Int) : List PV := [pI v.saga.id, pS v.saga.key, pS v.saga.body, encSteps v.saga.steps, pI v.saga.done, pB v.saga.out, pB v.saga.back, pI v.saga.left, pI v.saga.status, pI v.tries, pI v.due, pI k, pI id, pI n, pS ⟨#[]⟩, pS ⟨#[]⟩, .sc (.slice none 0 0), pB v.put]
theorem encN_wk (v : Live) (k id n : Int) : Fa WkP (v.encN k id n) (Live.enc { v with write := ⟨k, id, n, ⟨#[]⟩, ⟨#[]⟩, []⟩ }) :=
  ⟨wkP_refl _, wkP_refl _, wkP_refl _, wkP_refl _, wkP_refl _, wkP_refl _, wkP_refl _, wkP_refl _, wkP_refl _, wkP_refl _, wkP_refl _, wkP_refl _, wkP_refl _, wkP_refl _, wkP_refl _, wkP_refl _, wkP_nil 6, wkP_refl _, trivial⟩
end Go.Rx
namespace Go.Proofs.YtfjllfjmggooeaaGreatDoor.Rx
open Go.Rx Go.Proofs Go.Proofs.YtfjllfjmggooeaaGreatDoor.RxH
/-- A record without a call. -/
theorem nextR_con (w : Wd) (i : Nat) (v : Live) (k n : Int) (hi : w.lives[i]? = some v)
    (hc : (v.saga.back = false ∧ (v.saga.done == (v.saga.steps.length : Int)) = true ∧ k = 6 ∧ n = 1) ∨ (v.saga.back = true ∧ (v.saga.left == 0) = true ∧ k = 6 ∧ n = 2) ∨ (v.saga.back = false ∧ (v.saga.done == (v.saga.steps.length : Int)) = false ∧ v.saga.out = false ∧ k = 2 ∧ n = v.saga.done)) :
    ConG P 105 (mvB w) [.lf (.ptr 0 0), .lf (.ept 2 w.lives.length i 18 0)] nilI (mvB (setLive w i { v with write := ⟨k, v.saga.id, n, ⟨#[]⟩, ⟨#[]⟩, []⟩ })) := by
  have hml : (w.lives.map Live.enc).length = w.lives.length := List.length_map ..
  have hrow : (w.lives.map Live.enc)[i]? = some v.enc := by rw [List.getElem?_map, hi]; rfl
  have hwk : Fa (Fa WkP) ((w.lives.map Live.enc).set i (v.encN k v.saga.id n)) ((w.lives.map Live.enc).set i (Live.enc { v with write := ⟨k, v.saga.id, n, ⟨#[]⟩, ⟨#[]⟩, []⟩ })) := fa_setX (fun _ => fa_reflX wkP_refl _) (encN_wk v k v.saga.id n) _ _
  rw [← mvSet]
  refine ConG.wk (b := 2) (B1 := [Blk.var [.pv (pI w.clock), .pv (pS w.file.safe), .pv (pS w.file.tail), .pv (pI w.file.cap), .own 1 w.ledgers.length, .own 2 w.lives.length, .own 3 w.outs.length, .pv (pI w.taken)],
      .arr 47 3 (w.ledgers.map Ledger.enc), .arr 44 18 ((w.lives.map Live.enc).set i (v.encN k v.saga.id n)), .arr 3 1 (intRows w.outs)]) ?_ rfl hwk
  obtain ⟨⟨id, key, body, steps, done, out, back, left, status⟩, tries, due, write, put⟩ := v
  have hsm : (steps.map Step.enc).length = steps.length := List.length_map ..
  simp only at hc
  refine ConG.of T_ok Tryz.func105 rfl (by kernel_rfl) (by kernel_rfl) (aw_of T_ok (by kernel_rfl) ?_)
  conv => whnf
  refine ⟨hml, hml, rfl, hml, _, hrow, ?_⟩
  conv => whnf
  rcases hc with ⟨hb, hd, rfl, rfl⟩ | ⟨hb, hl, rfl, rfl⟩ | ⟨hb, hd, ho, rfl, rfl⟩
  · subst hb
    conv => whnf
    split <;> rename_i h1 <;> conv => whnf
    · refine ⟨hml, hml, rfl, hml, _, hrow, by decide, ?_⟩
      conv => whnf
      exact ⟨[], [0, 1, 2, 3], [nilI], [nilI], rfl, rfl, rfl, wk_refl _, rfl⟩
    · have h1' : (done == ((steps.map Step.enc).length : Int)) = false := h1
      rw [hsm, hd] at h1'
      cases h1'
  · subst hb
    conv => whnf
    split <;> rename_i h1 <;> conv => whnf
    · refine ⟨hml, hml, rfl, hml, _, hrow, by decide, ?_⟩
      conv => whnf
      exact ⟨[], [0, 1, 2, 3], [nilI], [nilI], rfl, rfl, rfl, wk_refl _, rfl⟩
    · have h1' : (left == 0) = false := h1
      rw [hl] at h1'
      cases h1'
  · subst hb ho
    conv => whnf
    split <;> rename_i h1 <;> conv => whnf
    · have h1' : (_ == ((steps.map Step.enc).length : Int)) = true := h1
      rw [hsm, hd] at h1'
      cases h1'
    · refine ⟨hml, hml, rfl, hml, _, hrow, by decide, ?_⟩
      conv => whnf
      exact ⟨[], [0, 1, 2, 3], [nilI], [nilI], rfl, rfl, rfl, wk_refl _, rfl⟩
end Go.Proofs.YtfjllfjmggooeaaGreatDoor.Rx

/- A step: a call. -/
set_option linter.unusedVariables false
set_option linter.unusedSimpArgs false
namespace Go.Proofs.YtfjllfjmggooeaaGreatDoor.Rx
open Go.Rx Go.Proofs Go.Proofs.YtfjllfjmggooeaaGreatDoor.RxH
set_option maxHeartbeats 1000000 in
theorem nextC_con (w : Wd) (i : Nat) (v : Live) (hi : w.lives[i]? = some v) (ht : -1 ≤ v.tries ∧ v.tries ≤ 4611686018427387903)
    (hb : (!v.saga.back && (v.saga.done == (v.saga.steps.length : Int))) = false) (hl : (v.saga.back && (v.saga.left == 0)) = false) (ho : (!v.saga.back && !v.saga.out) = false) (hc : CallOk w v.saga) (he : (doneAt w v.saga).2.2 = 0) :
    ConG P 105 (mvB w) [.lf (.ptr 0 0), .lf (.ept 2 w.lives.length i 18 0)] nilI (mvB (setLive (calledW w v.saga) i (nextW w v).2.1)) := by
  have hml : (w.lives.map Live.enc).length = w.lives.length := List.length_map ..
  have hrow : (w.lives.map Live.enc)[i]? = some v.enc := by rw [List.getElem?_map, hi]; rfl
  have cc := called_con w v.saga hc he
  have ca : ConG P 141 (mvB (calledW w v.saga)) [.lf (.ptr 0 0), .lf (.ept 2 (calledW w v.saga).lives.length i 18 0), Go.Rx.I (doneAt w v.saga).2.1] (.tup [recT (answeredL w.clock v (doneAt w v.saga).2.1).2.1, .lf (.pv (pB (answeredL w.clock v (doneAt w v.saga).2.1).2.2))]) (mvB (setLive (calledW w v.saga) i (answeredL w.clock v (doneAt w v.saga).2.1).1)) := answered_con (calledW w v.saga) i v (doneAt w v.saga).2.1 hi ht
  have hn : (nextW w v).2.1 = if (answeredL w.clock v (doneAt w v.saga).2.1).2.2 then { (answeredL w.clock v (doneAt w v.saga).2.1).1 with write := (answeredL w.clock v (doneAt w v.saga).2.1).2.1 } else (answeredL w.clock v (doneAt w v.saga).2.1).1 := by
    rw [nextW]
    simp only
    rw [if_neg (by rw [hb]; decide), if_neg (by rw [hl]; decide), if_neg (by rw [ho]; decide), if_pos he]
  have hm : mvB (calledW w v.saga) = mvB (calledW w v.saga) := rfl
  rw [hn]
  generalize answeredL w.clock v (doneAt w v.saga).2.1 = q at ca
  generalize (doneAt w v.saga).2.1 = a at cc ca
  generalize hW : calledW w v.saga = W at cc ca
  have hlv : W.lives = w.lives := by rw [← hW]; rfl
  obtain ⟨v', r, b⟩ := q
  have hil : i < W.lives.length := by rw [hlv]; exact (List.getElem?_eq_some_iff.1 hi).1
  have hml2 : ((W.lives.set i v').map Live.enc).length = w.lives.length := by rw [List.length_map, List.length_set, hlv]
  have hrow2 : ((W.lives.set i v').map Live.enc)[i]? = some v'.enc := by rw [List.getElem?_map, List.getElem?_set_self hil]; rfl
  have hend : [Blk.var [.pv (pI W.clock), .pv (pS W.file.safe), .pv (pS W.file.tail), .pv (pI W.file.cap), .own 1 W.ledgers.length, .own 2 (W.lives.set i v').length, .own 3 W.outs.length, .pv (pI W.taken)],
      .arr 47 3 (W.ledgers.map Ledger.enc), .arr 44 18 (((W.lives.set i v').map Live.enc).set i (Live.enc { v' with write := r })), .arr 3 1 (intRows W.outs)] = mvB (setLive W i { v' with write := r }) := by
    have e1 : (W.lives.set i { v' with write := r }).map Live.enc = ((W.lives.set i v').map Live.enc).set i (Live.enc { v' with write := r }) := by
      rw [← List.map_set, List.set_set]
    have e2 : (W.lives.set i { v' with write := r }).length = (W.lives.set i v').length := by rw [List.length_set, List.length_set]
    show _ = [Blk.var [.pv (pI W.clock), .pv (pS W.file.safe), .pv (pS W.file.tail), .pv (pI W.file.cap), .own 1 W.ledgers.length, .own 2 (W.lives.set i { v' with write := r }).length, .own 3 W.outs.length, .pv (pI W.taken)],
      .arr 47 3 (W.ledgers.map Ledger.enc), .arr 44 18 ((W.lives.set i { v' with write := r }).map Live.enc), .arr 3 1 (intRows W.outs)]
    rw [e1, e2]
  rw [hlv] at ca
  clear hn hm hW
  obtain ⟨⟨id, key, body, steps, done, out, back, left, status⟩, tries, due, write, put⟩ := v
  have hsm : (steps.map Step.enc).length = steps.length := List.length_map ..
  simp only at hb hl ho
  refine ConG.of T_ok Tryz.func105 rfl (by kernel_rfl) (by kernel_rfl) (aw_ofC T_ok 2006 (by kernel_rfl) ?_)
  conv => whnf
  refine ⟨hml, hml, rfl, hml, _, hrow, ?_⟩
  conv => whnf
  cases back with
  | true =>
    conv => whnf
    split <;> rename_i h1 <;> conv => whnf
    · have h1' : (left == 0) = true := h1
      rw [h1'] at hl
      cases hl
    refine ⟨[0, 1, 2, 3], _, _, _, _, _, nodupB_ok rfl, rfl, rfl, wk_refl _, cc, ?_⟩
    conv => whnf
    refine ⟨rfl, ?_⟩
    conv => whnf
    refine ⟨[0, 1, 2, 3], _, _, _, _, _, nodupB_ok rfl, rfl, rfl, wk_refl _, ca, ?_⟩
    conv => whnf
    refine AW.meet (fun _ : Unit => True) (fun _ => [(0, .lf (.ptr 0 0)), (1, .lf (.ept 2 w.lives.length i 18 0)), (8, .lf (.ptr 5 0)), (9, Bl b)])
      (fun _ => mvB (setLive W i v') ++ [.var [.pv (pI id), .pv (pS key), .pv (pS body), .pv (encSteps steps), .pv (pI done), .pv (pB out), .pv (pB true), .pv (pI left), .pv (pI status)],
        .var [.pv (pI r.kind), .pv (pI r.id), .pv (pI r.n), .pv (pS r.key), .pv (pS r.body), .pv (encSteps r.steps)]]) [] ?_ ?_
    · exact ⟨(), trivial, ⟨rfl, rfl, rfl, rfl, trivial⟩, ⟨[], rfl⟩, rfl, rfl⟩
    rintro _ _
    refine aw_of T_ok (by kernel_rfl) ?_
    conv => whnf
    cases b with
    | true =>
      conv => whnf
      refine ⟨hml2, hml2, rfl, hml2, _, hrow2, by decide, ?_⟩
      conv => whnf
      refine ⟨[], [0, 1, 2, 3], [nilI], [nilI], rfl, ?zt, rfl, wk_refl _, rfl⟩
      show _ = some (mvB (setLive W i { v' with write := r }))
      rw [← hend]
      rfl
    | false =>
      conv => whnf
      refine ⟨[], [0, 1, 2, 3], [nilI], [nilI], rfl, ?zf, rfl, wk_refl _, rfl⟩
      show _ = some (mvB (setLive W i v'))
      rfl
  | false =>
    cases out with
    | false => cases ho
    | true =>
    conv => whnf
    split <;> rename_i h1 <;> conv => whnf
    · have h1' : (done == ((steps.map Step.enc).length : Int)) = true := h1
      rw [hsm] at h1'
      rw [h1'] at hb
      cases hb
    refine ⟨[0, 1, 2, 3], _, _, _, _, _, nodupB_ok rfl, rfl, rfl, wk_refl _, cc, ?_⟩
    conv => whnf
    refine ⟨rfl, ?_⟩
    conv => whnf
    refine ⟨[0, 1, 2, 3], _, _, _, _, _, nodupB_ok rfl, rfl, rfl, wk_refl _, ca, ?_⟩
    conv => whnf
    refine AW.meet (fun _ : Unit => True) (fun _ => [(0, .lf (.ptr 0 0)), (1, .lf (.ept 2 w.lives.length i 18 0)), (8, .lf (.ptr 5 0)), (9, Bl b)])
      (fun _ => mvB (setLive W i v') ++ [.var [.pv (pI id), .pv (pS key), .pv (pS body), .pv (encSteps steps), .pv (pI done), .pv (pB true), .pv (pB false), .pv (pI left), .pv (pI status)],
        .var [.pv (pI r.kind), .pv (pI r.id), .pv (pI r.n), .pv (pS r.key), .pv (pS r.body), .pv (encSteps r.steps)]]) [] ?_ ?_
    · exact ⟨(), trivial, ⟨rfl, rfl, rfl, rfl, trivial⟩, ⟨[], rfl⟩, rfl, rfl⟩
    rintro _ _
    refine aw_of T_ok (by kernel_rfl) ?_
    conv => whnf
    cases b with
    | true =>
      conv => whnf
      refine ⟨hml2, hml2, rfl, hml2, _, hrow2, by decide, ?_⟩
      conv => whnf
      refine ⟨[], [0, 1, 2, 3], [nilI], [nilI], rfl, ?zt2, rfl, wk_refl _, rfl⟩
      show _ = some (mvB (setLive W i { v' with write := r }))
      rw [← hend]
      rfl
    | false =>
      conv => whnf
      refine ⟨[], [0, 1, 2, 3], [nilI], [nilI], rfl, ?zf2, rfl, wk_refl _, rfl⟩
      show _ = some (mvB (setLive W i v'))
      rfl
end Go.Proofs.YtfjllfjmggooeaaGreatDoor.Rx
