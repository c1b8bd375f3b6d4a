/- What happens to a ledger: the page's answer. -/
import Derived.Test.YtooiiihaijpbaaaRxD7
set_option linter.unusedVariables false
set_option linter.unusedSimpArgs false
namespace Go.Rx
def isB (l : List Entry) (of' : Int) (back : Bool) : Bool := !back || l.any fun e => e.key == of' && !e.back
theorem isB_succ {l : List Entry} {of' : Int} {back : Bool} {i : Nat} (h : i < l.length) : isB (l.take (i + 1)) of' back = (isB (l.take i) of' back || ((l[i]).key == of' && !(l[i]).back)) := by
  rw [isB, take_succ' h, List.any_append]; simp [isB, Bool.or_assoc]
def ansH (out : Int) : Int := if out = 3 then 2 else 0
def hapL (g : Ledger) (k of' : Int) (back : Bool) (op who : ByteArray) (n out : Int) : Ledger × Int × Int :=
  if g.known.contains k = true then (g, if out = 2 ∨ out = 3 then 2 else 0, 0)
  else if out = 1 ∨ out = 2 then (g, out, 0)
  else if 200 ≤ g.entries.length ∨ 400 ≤ g.known.length then (zL, 0, 7)
  else (⟨g.service, if isB g.entries of' back then g.entries ++ [⟨k, back, op, who, n⟩] else g.entries, insL g.known (posL g.known k) k⟩, ansH out, 0)
abbrev ledP (p : Ledger × Int × Int) : AV := .tup [tLedger p.1, .lf (.pv (pI p.2.1)), .lf (.pv (pI p.2.2))]
theorem finLP {g : Ledger} {a e : Int} {q : Ledger × Int × Int} (h : Fin (g, a, e) q) : ∃ zs, Fa WkA [encLedger g, Go.Rx.I a, Go.Rx.I e] zs ∧ pack zs = some (ledP q) := by
  refine ⟨_, wk_refl _, ?_⟩
  rw [← h.out]; rfl
theorem finLZ {a e : Int} {q : Ledger × Int × Int} (h : Fin (zL, a, e) q) : ∃ zs, Fa WkA [.agg [.pv (pI 0), .pv (.sc (.slice none 0 0)), .pv (.sc (.slice none 0 0))], Go.Rx.I a, Go.Rx.I e] zs ∧ pack zs = some (ledP q) := by
  refine ⟨[encLedger zL, Go.Rx.I a, Go.Rx.I e], ⟨.inr (.inr ⟨_, _, rfl, rfl, wkE _, wkN 5, wkN 1, trivial⟩), .inl rfl, .inl rfl, trivial⟩, ?_⟩
  rw [← h.out]; rfl
/-- The first that is not less. -/
theorem pos_first {l : List Int} {k : Int} {i : Nat} (hi : i ≤ l.length) (h1 : ∀ t (ht : t < l.length), t < i → l[t] < k) (h2 : ∀ (ht : i < l.length), ¬ l[i] < k) : posL l k = i := by
  have e : l = l.take i ++ l.drop i := (List.take_append_drop i l).symm
  have e1 : (l.take i).takeWhile (fun x => decide (x < k)) = l.take i := tw_all fun x hx => by
    obtain ⟨t, ht, rfl⟩ := List.getElem_of_mem hx
    rw [List.length_take] at ht
    rw [List.getElem_take]
    exact decide_eq_true (h1 t (by omega) (by omega))
  have e2 : (l.drop i).takeWhile (fun x => decide (x < k)) = [] := by
    rcases Nat.lt_or_ge i l.length with hl | hl
    · rw [List.drop_eq_getElem_cons hl, List.takeWhile_cons_of_neg (by have := h2 hl; simpa using this)]
    · rw [List.drop_of_length_le hl]; rfl
  unfold posL
  have e3 : l.takeWhile (fun x => decide (x < k)) = l.take i := by
    conv => lhs; rw [e]
    rw [List.takeWhile_append, e1, if_pos rfl, e2, List.append_nil]
  rw [e3, List.length_take]
  omega
end Go.Rx
namespace Go.Proofs.Ytooiiihaijpbaaa.Rx
open Go.Rx Go.Proofs Go.Proofs.Ytooiiihaijpbaaa.RxH

theorem copyEntriesO_con (l : List Entry) (hl : l.length * 56 ≤ 140737488351232) : Con P 44 [.lf (.pv (encEntries l))] (.lf (.own 0 l.length)) [.arr 50 5 (l.map Entry.enc)] := by
  refine ConG.con (ConG.of T_ok Try.func44 rfl (by kernel_rfl) (by kernel_rfl) (aw_of T_ok (by kernel_rfl) ?_)) rfl
  conv => whnf
  refine AW.loop (fun k : Nat => k ≤ l.length) (fun k => [(0, .lf (.pv (encEntries l))), (3, .lf (.own 0 k)), (4, Go.Rx.I k)]) (fun k => [.arr 50 5 ((l.take k).map Entry.enc)]) (fun k => l.length - k) [.slot 3 50 5] ?_ ?_
  · exact ⟨rfl, 0, Nat.zero_le _, ⟨rfl, rfl, rfl, trivial⟩, ⟨[], rfl⟩, rfl, rfl⟩
  · intro k hk
    refine aw_of T_ok (by kernel_rfl) ?_
    conv => whnf
    split <;> rename_i hlt <;> conv => whnf
    · have hkl : k < l.length := by simp at hlt; omega
      refine ⟨by omega, (l[k]).enc, by simp [hkl], ?_⟩
      conv => whnf
      refine ⟨rfl, _, .inl rfl, ?_⟩
      conv => whnf
      refine ⟨by simp; omega, by show (k + 1) * 56 ≤ _; omega, ?_⟩
      conv => whnf
      refine ⟨k + 1, ⟨by omega, by omega⟩, ⟨rfl, rfl, congrArg Go.Rx.I (wrapI (by omega)), trivial⟩, ⟨[?r], ?e⟩, rfl, rfl⟩
      case e => show _ = [Blk.arr _ _ (List.map Entry.enc (l.take (k + 1)))] ++ [_]; rw [take_succ' hkl, List.map_append]; rfl
    · have hkl : k = l.length := by simp at hlt; omega
      subst hkl
      refine ⟨[], [0], [.lf (.own 0 l.length)], [.lf (.own 0 l.length)], rfl, ?_, rfl, wk_refl _, rfl⟩
      show some [Blk.arr _ 5 ((l.take l.length).map Entry.enc)] = _
      rw [List.take_length]
theorem copyNumbersO_con (l : List Int) (hl : l.length * 8 ≤ 140737488351232) : Con P 45 [.lf (.pv (encInts l))] (.lf (.own 0 l.length)) [.arr 3 1 (intRows l)] := by
  refine ConG.con (ConG.of T_ok Try.func45 rfl (by kernel_rfl) (by kernel_rfl) (aw_of T_ok (by kernel_rfl) ?_)) rfl
  conv => whnf
  refine AW.loop (fun k : Nat => k ≤ l.length) (fun k => [(0, .lf (.pv (encInts l))), (3, .lf (.own 0 k)), (4, Go.Rx.I k)]) (fun k => [.arr 3 1 (intRows (l.take k))]) (fun k => l.length - k) [.slot 3 3 1] ?_ ?_
  · exact ⟨rfl, 0, Nat.zero_le _, ⟨rfl, rfl, rfl, trivial⟩, ⟨[], rfl⟩, rfl, rfl⟩
  · intro k hk
    refine aw_of T_ok (by kernel_rfl) ?_
    conv => whnf
    split <;> rename_i hlt <;> conv => whnf
    · have hkl : k < l.length := by simp at hlt; omega
      refine ⟨by omega, [pI l[k]], by simp [hkl], ?_⟩
      conv => whnf
      refine ⟨rfl, _, .inl rfl, ?_⟩
      conv => whnf
      refine ⟨by simp; omega, by show (k + 1) * 8 ≤ _; omega, ?_⟩
      conv => whnf
      refine ⟨k + 1, ⟨by omega, by omega⟩, ⟨rfl, rfl, congrArg Go.Rx.I (wrapI (by omega)), trivial⟩, ⟨[?r], ?e⟩, rfl, rfl⟩
      case e => show _ = [Blk.arr _ _ (List.map (fun n => [pI n]) (l.take (k + 1)))] ++ [_]; rw [take_succ' hkl, List.map_append]; rfl
    · have hkl : k = l.length := by simp at hlt; omega
      subst hkl
      refine ⟨[], [0], [.lf (.own 0 l.length)], [.lf (.own 0 l.length)], rfl, ?_, rfl, wk_refl _, rfl⟩
      show some [Blk.arr _ 1 (intRows (l.take l.length))] = _
      rw [List.take_length]
theorem copyLedgerE_con (g : Ledger) (h : g.Ok) : Con P 28 [encLedger g] (.agg [.pv (pI g.service), .own 0 g.entries.length, .pv (encInts g.known)]) [.arr 50 5 (g.entries.map Entry.enc)] := by
  refine ConG.con (ConG.of T_ok Try.func28 rfl (by kernel_rfl) (by kernel_rfl) (aw_of T_ok (by kernel_rfl) ?_)) rfl
  conv => whnf
  refine ⟨_, _, _, wk_refl _, copyEntriesO_con g.entries h.el, .inr ?_⟩
  conv => whnf
  refine callU (copyNumbers_con _ h.kl) (fun _ => rfl) ?_
  conv => whnf
  exact ⟨[], [3], [.agg [.pv (pI g.service), .own 0 g.entries.length, .pv (encInts g.known)]], [.agg [.pv (pI g.service), .own 0 g.entries.length, .pv (encInts g.known)]], rfl, rfl, rfl, wk_refl _, rfl⟩
theorem know_con (g : Ledger) (hkl : (g.known.length + 1) * 8 ≤ 140737488351232) (k : Int) : Con P 60 [encLedger g, I k] (encLedger ⟨g.service, g.entries, insL g.known (posL g.known k) k⟩) [] := by
  have hm : (intRows g.known).length = g.known.length := List.length_map ..
  refine Con.of T_ok Try.func60 rfl (by kernel_rfl) (by kernel_rfl) (aw_of T_ok (by kernel_rfl) ?_)
  conv => whnf
  refine AW.loop (fun i : Nat => i ≤ g.known.length ∧ ∀ t (ht : t < g.known.length), t < i → g.known[t] < k) (fun i => [(1, Go.Rx.I k), (2, .lf (.ptr 0 0)), (4, .lf (.ptr 1 0)), (5, Go.Rx.I i)]) (fun _ => [ledgerV g, .var [.pv (pI 0), .pv (.sc (.slice none 0 0)), .pv (.sc (.slice none 0 0))]]) (fun i => g.known.length - i) [] ?_ ?_
  · exact ⟨0, ⟨Nat.zero_le _, fun t ht h => absurd h (Nat.not_lt_zero _)⟩, ⟨rfl, rfl, rfl, rfl, trivial⟩, ⟨[], rfl⟩, rfl, rfl⟩
  rintro i ⟨hi, hpre⟩
  have hm' : (g.known.map fun n => [pI n]).length = g.known.length := hm
  refine aw_of T_ok (by kernel_rfl) ?_
  have fin : (∀ (ht : i < g.known.length), ¬ g.known[i] < k) → posL g.known k = i := fun h2 => pos_first hi hpre h2
  conv => whnf
  split <;> rename_i hlt <;> conv => whnf
  · have hil : i < g.known.length := by have := of_decide_eq_true hlt; omega
    refine ⟨by omega, [pI g.known[i]], by simp [hil], ?_⟩
    conv => whnf
    split <;> rename_i h1 <;> conv => whnf
    · have h1' : g.known[i] < k := of_decide_eq_true h1
      refine ⟨i + 1, ⟨⟨by omega, fun t ht hti => ?_⟩, by omega⟩, ⟨rfl, rfl, rfl, congrArg Go.Rx.I (wrapI (by omega)), trivial⟩, ⟨[], rfl⟩, rfl, rfl⟩
      by_cases e : t = i
      · subst e; exact h1'
      · exact hpre t ht (by omega)
    · have h1' : ¬ g.known[i] < k := of_decide_eq_false h1
      have hp : posL g.known k = i := fin (fun _ => h1')
      refine AW.draw T_ok rfl (.one 0 (.one 1 (.one 2 (.one 5 (.pre 3 (.pre 8 (.pre 9 (.pre 10 (.pre 11 (.two 4 (listPl [6, 7, 12, 13, 14]) 6 (listPl [4, 7, 12, 13, 14]))))))))))) (by kernel_rfl) (by kernel_rfl) ?_
      conv => whnf
      refine ⟨by decide, by omega, by show (i : Int) ≤ ((intRows g.known).length : Nat); omega, ?_⟩
      rw [take_rows]
      conv => whnf
      refine ⟨by omega, by show (i : Int) ≤ ((intRows g.known).length : Nat); omega, by omega, ?_⟩
      rw [drop_rows]
      conv => whnf
      refine ⟨?_, ?_⟩ <;> conv => whnf
      all_goals
        refine ⟨_, _, _, wk_refl _, copyNumbersO_con (g.known.take i) (by rw [List.length_take]; omega), .inr ?_⟩
        conv => whnf
        refine ⟨rfl, _, .inl rfl, ?_⟩
        conv => whnf
        refine ⟨by simp, by show ((g.known.take i).length + 1) * 8 ≤ _; rw [List.length_take]; omega, ?_⟩
        conv => whnf
        refine ⟨_, .inl rfl, ?_⟩
        conv => whnf
        refine ⟨by simp [chunk], by show ((g.known.take i).length + 1 + (intRows (g.known.drop i)).length) * 8 ≤ _; simp; omega, ?_⟩
        conv => whnf
        refine ⟨by simp [chunk]; omega, ?_⟩
        refine finA ⟨?_⟩
        rw [hp]
        show some (AV.agg [.pv (pI g.service), .pv (encEntries g.entries), .pv (.sl 1 ((intRows (g.known.take i) ++ [[pI k]]) ++ intRows (g.known.drop i)))]) = some (AV.agg [.pv (pI g.service), .pv (encEntries g.entries), .pv (.sl 1 (intRows (insL g.known i k)))])
        rw [show (intRows (g.known.take i) ++ [[pI k]]) ++ intRows (g.known.drop i) = intRows (insL g.known i k) by simp [insL]]
  · have hil : g.known.length ≤ i := by have := of_decide_eq_false hlt; omega
    have hp : posL g.known k = i := fin (fun ht => by omega)
    refine AW.draw T_ok rfl (.one 0 (.one 1 (.one 2 (.one 5 (.pre 3 (.pre 8 (.pre 9 (.pre 10 (.pre 11 (.two 4 (listPl [6, 7, 12, 13, 14]) 6 (listPl [4, 7, 12, 13, 14]))))))))))) (by kernel_rfl) (by kernel_rfl) ?_
    conv => whnf
    refine ⟨by decide, by omega, by show (i : Int) ≤ ((intRows g.known).length : Nat); omega, ?_⟩
    rw [take_rows]
    conv => whnf
    refine ⟨by omega, by show (i : Int) ≤ ((intRows g.known).length : Nat); omega, by omega, ?_⟩
    rw [drop_rows]
    conv => whnf
    refine ⟨?_, ?_⟩ <;> conv => whnf
    all_goals
      refine ⟨_, _, _, wk_refl _, copyNumbersO_con (g.known.take i) (by rw [List.length_take]; omega), .inr ?_⟩
      conv => whnf
      refine ⟨rfl, _, .inl rfl, ?_⟩
      conv => whnf
      refine ⟨by simp, by show ((g.known.take i).length + 1) * 8 ≤ _; rw [List.length_take]; omega, ?_⟩
      conv => whnf
      refine ⟨_, .inl rfl, ?_⟩
      conv => whnf
      refine ⟨by simp [chunk], by show ((g.known.take i).length + 1 + (intRows (g.known.drop i)).length) * 8 ≤ _; simp; omega, ?_⟩
      conv => whnf
      refine ⟨by simp [chunk]; omega, ?_⟩
      refine finA ⟨?_⟩
      rw [hp]
      show some (AV.agg [.pv (pI g.service), .pv (encEntries g.entries), .pv (.sl 1 ((intRows (g.known.take i) ++ [[pI k]]) ++ intRows (g.known.drop i)))]) = some (AV.agg [.pv (pI g.service), .pv (encEntries g.entries), .pv (.sl 1 (intRows (insL g.known i k)))])
      rw [show (intRows (g.known.take i) ++ [[pI k]]) ++ intRows (g.known.drop i) = intRows (insL g.known i k) by simp [insL]]
theorem happens_con (g : Ledger) (h : g.Ok) (k of' : Int) (back : Bool) (op who : ByteArray) (n out : Int) : Con P 49 [encLedger g, I k, I of', Bl back, Sx op, Sx who, I n, I out] (ledP (hapL g k of' back op who n out)) [] := by
  have hel := h.el
  have hkl := h.kl
  have hle : (g.entries.map Entry.enc).length = g.entries.length := List.length_map ..
  have hlk : (g.known.map fun n => [pI n]).length = g.known.length := List.length_map ..
  obtain ⟨d, hd⟩ : ∃ d, d = hapL g k of' back op who n out := ⟨_, rfl⟩
  rw [← hd]
  have ci := in_con g.known k h.kl
  have hin := in_known' g.known k
  obtain ⟨ix, hix⟩ : ∃ ix, ix = idxL (fun y => y == k) g.known 0 := ⟨_, rfl⟩
  rw [← hix] at ci hin
  refine Con.of T_ok Try.func49 rfl (by kernel_rfl) (by kernel_rfl) (aw_of T_ok (by kernel_rfl) ?_)
  conv => whnf
  refine ⟨_, _, _, wk_refl _, copyLedgerE_con g h, .inr ?_⟩
  conv => whnf
  refine callS ci rfl ?_
  conv => whnf
  split <;> rename_i h1 <;> conv => whnf
  · have hc : g.known.contains k = true := hin.symm.trans (show decide (0 ≤ ix) = true from h1)
    split <;> rename_i h2 <;> conv => whnf
    · have h2' : out = 2 := eq_of_beq h2
      have hd2 : d = (g, 2, 0) := hd.trans (by rw [hapL, if_pos hc, if_pos (.inl h2')])
      subst hd2
      refine ⟨hle, ?_⟩
      exact finLP ⟨rfl⟩
    have h2' : ¬ out = 2 := fun e => by rw [show (out == 2) = true from beq_iff_eq.2 e] at h2; cases h2
    split <;> rename_i h3 <;> conv => whnf
    · have h3' : out = 3 := eq_of_beq h3
      have hd2 : d = (g, 2, 0) := hd.trans (by rw [hapL, if_pos hc, if_pos (.inr h3')])
      subst hd2
      refine ⟨hle, ?_⟩
      exact finLP ⟨rfl⟩
    · have h3' : ¬ out = 3 := fun e => by rw [show (out == 3) = true from beq_iff_eq.2 e] at h3; cases h3
      have hd2 : d = (g, 0, 0) := hd.trans (by rw [hapL, if_pos hc, if_neg (by omega)])
      subst hd2
      refine ⟨hle, ?_⟩
      exact finLP ⟨rfl⟩
  have hc : ¬ g.known.contains k = true := by rw [← hin, show decide (0 ≤ ix) = false from h1]; decide
  split <;> rename_i h2 <;> conv => whnf
  · have h2' : out = 1 := eq_of_beq h2
    have hd2 : d = (g, out, 0) := hd.trans (by rw [hapL, if_neg hc, if_pos (.inl h2')])
    subst hd2
    refine ⟨hle, ?_⟩
    exact finLP ⟨rfl⟩
  have h2' : ¬ out = 1 := fun e => by rw [show (out == 1) = true from beq_iff_eq.2 e] at h2; cases h2
  split <;> rename_i h3 <;> conv => whnf
  · have h3' : out = 2 := eq_of_beq h3
    have hd2 : d = (g, out, 0) := hd.trans (by rw [hapL, if_neg hc, if_pos (.inr h3')])
    subst hd2
    refine ⟨hle, ?_⟩
    exact finLP ⟨rfl⟩
  have h3' : ¬ out = 2 := fun e => by rw [show (out == 2) = true from beq_iff_eq.2 e] at h3; cases h3
  refine ⟨hle, ?_⟩
  conv => whnf
  split <;> rename_i h4 <;> conv => whnf
  · have h4' : 200 ≤ g.entries.length := by have := of_decide_eq_true h4; omega
    have hd2 : d = (zL, 0, 7) := hd.trans (by rw [hapL, if_neg hc, if_neg (by omega), if_pos (.inl h4')])
    subst hd2
    exact finLZ ⟨rfl⟩
  have h4' : g.entries.length < 200 := by have := of_decide_eq_false h4; omega
  split <;> rename_i h5 <;> conv => whnf
  · have h5' : 400 ≤ g.known.length := by have := of_decide_eq_true h5; omega
    have hd2 : d = (zL, 0, 7) := hd.trans (by rw [hapL, if_neg hc, if_neg (by omega), if_pos (.inr h5')])
    subst hd2
    exact finLZ ⟨rfl⟩
  have h5' : g.known.length < 400 := by have := of_decide_eq_false h5; omega
  have goes : d = (⟨g.service, if isB g.entries of' back then g.entries ++ [⟨k, back, op, who, n⟩] else g.entries, insL g.known (posL g.known k) k⟩, ansH out, 0) := hd.trans (by rw [hapL, if_neg hc, if_neg (by omega), if_neg (by omega)])
  clear hd hin ci
  refine AW.loop (fun p : Nat × Bool => p.1 ≤ g.entries.length ∧ p.2 = isB (g.entries.take p.1) of' back) (fun p => [(1, Go.Rx.I k), (2, Go.Rx.I of'), (3, Bl back), (4, Sx op), (5, Sx who), (6, Go.Rx.I n), (7, Go.Rx.I out), (8, .lf (.ptr 0 0)), (16, .lf (.ptr 1 0)), (19, Bl p.2), (20, Go.Rx.I p.1)])
    (fun _ => [.var [.pv (pI g.service), .own 2 g.entries.length, .pv (encInts g.known)], .var [.pv (pI 0), .pv (.sc (.slice none 0 0)), .pv (.sc (.slice none 0 0))], .arr 50 5 (g.entries.map Entry.enc)]) (fun p => g.entries.length - p.1) [] ?_ ?_
  · exact ⟨(0, !back), ⟨Nat.zero_le _, by simp [isB]⟩, ⟨rfl, rfl, rfl, rfl, rfl, rfl, rfl, rfl, rfl, rfl, rfl, trivial⟩, ⟨_, rfl⟩, rfl, rfl⟩
  rintro ⟨i, is⟩ ⟨hi, his⟩
  simp only at hi his
  cases is with
  | true =>
    refine aw_of T_ok (by kernel_rfl) ?_
    conv => whnf
    refine ⟨hle, ?_⟩
    conv => whnf
    split <;> rename_i hlt <;> conv => whnf
    · have hil : i < g.entries.length := by have := of_decide_eq_true hlt; simp only at this; omega
      exact ⟨(i + 1, true), ⟨⟨by simp only; omega, by simp only; rw [isB_succ hil, ← his]; rfl⟩, by simp only; omega⟩, ⟨rfl, rfl, rfl, rfl, rfl, rfl, rfl, rfl, rfl, rfl, congrArg Go.Rx.I (wrapI (by simp only; omega)), trivial⟩, ⟨_, rfl⟩, rfl, rfl⟩
    have hil : i = g.entries.length := by have := of_decide_eq_false hlt; simp only at this; omega
    subst hil
    rw [List.take_length] at his
    rw [if_pos his.symm] at goes
    have e1 : (g.entries ++ [(⟨k, back, op, who, n⟩ : Entry)]).map Entry.enc = g.entries.map Entry.enc ++ [Entry.enc ⟨k, back, op, who, n⟩] := List.map_append
    have cw : Con P 60 [.agg [.pv (pI g.service), .pv (.sl 5 (g.entries.map Entry.enc ++ [Entry.enc ⟨k, back, op, who, n⟩])), .pv (encInts g.known)], I k] (encLedger ⟨g.service, g.entries ++ [⟨k, back, op, who, n⟩], insL g.known (posL g.known k) k⟩) [] := by
      rw [← e1]; exact know_con ⟨g.service, g.entries ++ [⟨k, back, op, who, n⟩], g.known⟩ (by simp only; omega) k
    refine ⟨rfl, _, .inl rfl, ?_⟩
    conv => whnf
    refine ⟨hle, by show (g.entries.length + 1) * 56 ≤ _; omega, ?_⟩
    conv => whnf
    refine ⟨by simp [chunk], ?_⟩
    conv => whnf
    refine callU cw (fun _ => rfl) ?_
    conv => whnf
    split <;> rename_i h6 <;> conv => whnf
    · have h6' : out = 3 := eq_of_beq h6
      rw [ansH, if_pos h6'] at goes
      subst goes
      exact finLP ⟨rfl⟩
    · have h6' : ¬ out = 3 := fun e => by rw [show (out == 3) = true from beq_iff_eq.2 e] at h6; cases h6
      rw [ansH, if_neg h6'] at goes
      subst goes
      exact finLP ⟨rfl⟩
  | false =>
    refine aw_of T_ok (by kernel_rfl) ?_
    conv => whnf
    refine ⟨hle, ?_⟩
    conv => whnf
    split <;> rename_i hlt <;> conv => whnf
    · have hil : i < g.entries.length := by have := of_decide_eq_true hlt; simp only at this; omega
      have nxt : ∀ b : Bool, ((g.entries[i]).key == of' && !(g.entries[i]).back) = b → b = isB (g.entries.take (i + 1)) of' back := fun b e => by rw [isB_succ hil, ← his, e]; rfl
      have hrow : (g.entries.map Entry.enc)[i]? = some (g.entries[i]).enc := by simp [hil]
      refine ⟨hle, by omega, by omega, ?_⟩
      conv => whnf
      refine ⟨hle, ?_⟩
      conv => whnf
      refine ⟨rfl, hle, _, hrow, ?_⟩
      conv => whnf
      split <;> rename_i h6 <;> conv => whnf
      · refine ⟨hle, by omega, by omega, ?_⟩
        conv => whnf
        refine ⟨hle, ?_⟩
        conv => whnf
        refine ⟨rfl, hle, _, hrow, ?_⟩
        conv => whnf
        exact ⟨(i + 1, !(g.entries[i]).back), ⟨⟨by simp only; omega, nxt _ (by rw [show ((g.entries[i]).key == of') = true from h6, Bool.true_and])⟩, by simp only; omega⟩, ⟨rfl, rfl, rfl, rfl, rfl, rfl, rfl, rfl, rfl, rfl, congrArg Go.Rx.I (wrapI (by simp only; omega)), trivial⟩, ⟨_, rfl⟩, rfl, rfl⟩
      · exact ⟨(i + 1, false), ⟨⟨by simp only; omega, nxt _ (by rw [show ((g.entries[i]).key == of') = false from h6, Bool.false_and])⟩, by simp only; omega⟩, ⟨rfl, rfl, rfl, rfl, rfl, rfl, rfl, rfl, rfl, rfl, congrArg Go.Rx.I (wrapI (by simp only; omega)), trivial⟩, ⟨_, rfl⟩, rfl, rfl⟩
    have hil : i = g.entries.length := by have := of_decide_eq_false hlt; simp only at this; omega
    subst hil
    rw [List.take_length] at his
    rw [if_neg (by rw [← his]; decide)] at goes
    refine ⟨hle, ?_⟩
    conv => whnf
    refine callU (know_con g (by omega) k) (fun _ => rfl) ?_
    conv => whnf
    split <;> rename_i h6 <;> conv => whnf
    · have h6' : out = 3 := eq_of_beq h6
      rw [ansH, if_pos h6'] at goes
      subst goes
      exact finLP ⟨rfl⟩
    · have h6' : ¬ out = 3 := fun e => by rw [show (out == 3) = true from beq_iff_eq.2 e] at h6; cases h6
      rw [ansH, if_neg h6'] at goes
      subst goes
      exact finLP ⟨rfl⟩
end Go.Proofs.Ytooiiihaijpbaaa.Rx
