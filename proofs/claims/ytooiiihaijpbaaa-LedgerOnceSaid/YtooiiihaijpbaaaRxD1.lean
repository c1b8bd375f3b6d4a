/- Ledgers: data; the same, copied. -/
import Derived.Test.YtooiiihaijpbaaaRxM6
set_option linter.unusedVariables false
set_option linter.unusedSimpArgs false
namespace Go.Rx
structure Entry where
  key : Int
  back : Bool
  op : ByteArray
  who : ByteArray
  n : Int
theorem Entry.eq_of {a b : Entry} (h : a.key = b.key ∧ a.back = b.back ∧ a.op = b.op ∧ a.who = b.who ∧ a.n = b.n) : a = b := by cases a; cases b; simp_all
instance : DecidableEq Entry := fun a b => decidable_of_iff (a.key = b.key ∧ a.back = b.back ∧ a.op = b.op ∧ a.who = b.who ∧ a.n = b.n) ⟨Entry.eq_of, fun h => by subst h; simp⟩
def Entry.enc (e : Entry) : List PV := [pI e.key, pB e.back, pS e.op, pS e.who, pI e.n]
abbrev encEntry (e : Entry) : AV := .agg [.pv (pI e.key), .pv (pB e.back), .pv (pS e.op), .pv (pS e.who), .pv (pI e.n)]
abbrev encEntries (l : List Entry) : PV := .sl 5 (l.map Entry.enc)
theorem entryEq (x y : Entry) : ((x.key == y.key) && ((x.back == y.back) && ((x.op == y.op) && ((x.who == y.who) && ((x.n == y.n) && true))))) = decide (x = y) := by
  rw [Bool.eq_iff_iff]
  simp only [Bool.and_eq_true, beq_iff_eq, decide_eq_true_eq, and_true]
  exact ⟨Entry.eq_of, fun h => by subst h; simp⟩
structure Ledger where
  service : Int
  entries : List Entry
  known : List Int
theorem Ledger.eq_of {a b : Ledger} (h : a.service = b.service ∧ a.entries = b.entries ∧ a.known = b.known) : a = b := by cases a; cases b; simp_all
instance : DecidableEq Ledger := fun a b => decidable_of_iff (a.service = b.service ∧ a.entries = b.entries ∧ a.known = b.known) ⟨Ledger.eq_of, fun h => by subst h; simp⟩
theorem ledgerEq (a b : Ledger) : decide (a = b) = (a.service == b.service && decide (a.entries = b.entries) && decide (a.known = b.known)) := by
  rw [Bool.eq_iff_iff]
  simp only [Bool.and_eq_true, beq_iff_eq, decide_eq_true_eq]
  exact ⟨fun h => by subst h; simp, fun h => Ledger.eq_of ⟨h.1.1, h.1.2, h.2⟩⟩
abbrev Ledger.enc (g : Ledger) : List PV := [pI g.service, encEntries g.entries, encInts g.known]
abbrev encLedger (g : Ledger) : AV := .agg [.pv (pI g.service), .pv (encEntries g.entries), .pv (encInts g.known)]
abbrev ledgerV (g : Ledger) : Blk := .var [.pv (pI g.service), .pv (encEntries g.entries), .pv (encInts g.known)]
structure Entry.Ok (e : Entry) : Prop where
  op : okS e.op
  who : okS e.who
structure Ledger.Ok (g : Ledger) : Prop where
  el : g.entries.length * 56 ≤ 140737488351232
  kl : g.known.length * 8 ≤ 140737488351232
  each : ∀ e ∈ g.entries, e.Ok
theorem intsEnc (l : List Int) (n : Int) : (l.map fun n => [pI n]) ++ [[pI n]] = (l ++ [n]).map fun n => [pI n] := by simp
end Go.Rx
namespace Go.Proofs.Ytooiiihaijpbaaa.Rx
open Go.Rx Go.Proofs Go.Proofs.Ytooiiihaijpbaaa.RxH

theorem eqEntries_con (a b : List Entry) (ha : a.length * 56 ≤ 140737488351232) : Con P 35 [.lf (.pv (encEntries a)), .lf (.pv (encEntries b))] (Bl (decide (a = b))) [] := by
  refine Con.of T_ok Try.func35 rfl (by kernel_rfl) (by kernel_rfl) (aw_of T_ok (by kernel_rfl) ?_)
  conv => whnf
  split <;> rename_i h <;> conv => whnf
  · refine retB ?_
    symm
    rw [decide_eq_false_iff_not]
    rintro rfl
    simp at h
  · have hl : a.length = b.length := by simp at h; omega
    refine AW.loop (fun k : Nat => k ≤ a.length ∧ ∀ j, j < k → a[j]? = b[j]?) (fun k => [(0, .lf (.pv (encEntries a))), (1, .lf (.pv (encEntries b))), (5, Go.Rx.I k)]) (fun _ => []) (fun k => a.length - k) [] ?_ ?_
    · exact ⟨0, ⟨Nat.zero_le _, fun j hj => absurd hj (Nat.not_lt_zero _)⟩, ⟨rfl, rfl, rfl, trivial⟩, ⟨[], rfl⟩, rfl, rfl⟩
    · rintro k ⟨hk, hpre⟩
      refine aw_of T_ok (by kernel_rfl) ?_
      conv => whnf
      split <;> rename_i hlt <;> conv => whnf
      · have hka : k < a.length := by simp at hlt; omega
        have hkb : k < b.length := by omega
        refine AW.draw T_ok rfl (seqPl 0 9) (by kernel_rfl) (by kernel_rfl) ?_
        conv => whnf
        refine ⟨by omega, (a[k]).enc, by simp [hka], ?_⟩
        conv => whnf
        refine ⟨by omega, (b[k]).enc, by simp [hkb], ?_⟩
        conv => whnf
        split <;> rename_i hne <;> conv => whnf
        · refine retB ?_
          symm
          rw [decide_eq_false_iff_not]
          rintro rfl
          have h2 : (!(decide (a[k] = a[k]))) = true := by rw [← entryEq]; exact hne
          simp at h2
        · have he : a[k] = b[k] := by
            have h2 : (!(decide (a[k] = b[k]))) = false := by rw [← entryEq]; exact hne
            simpa using h2
          refine ⟨k + 1, ⟨⟨by omega, fun j hj => ?_⟩, by omega⟩, ⟨rfl, rfl, ?_, trivial⟩, ⟨[], rfl⟩, rfl, rfl⟩
          · by_cases e : j = k
            · subst e; rw [List.getElem?_eq_getElem hka, List.getElem?_eq_getElem hkb, he]
            · exact hpre j (by omega)
          · exact congrArg Go.Rx.I (wrapI (by omega))
      · refine retB ?_
        symm
        rw [decide_eq_true_eq]
        have hka : k = a.length := by simp at hlt; omega
        apply List.ext_getElem?
        intro j
        rcases Nat.lt_or_ge j k with hj | hj
        · exact hpre j hj
        · rw [List.getElem?_eq_none (by omega), List.getElem?_eq_none (by omega)]
theorem eqNumbers_con (a b : List Int) (ha : a.length * 8 ≤ 140737488351232) : Con P 36 [.lf (.pv (encInts a)), .lf (.pv (encInts b))] (Bl (decide (a = b))) [] := by
  refine Con.of T_ok Try.func36 rfl (by kernel_rfl) (by kernel_rfl) (aw_of T_ok (by kernel_rfl) ?_)
  conv => whnf
  split <;> rename_i h <;> conv => whnf
  · refine retB ?_
    symm
    rw [decide_eq_false_iff_not]
    rintro rfl
    simp at h
  · have hl : a.length = b.length := by simp at h; omega
    refine AW.loop (fun k : Nat => k ≤ a.length ∧ ∀ j, j < k → a[j]? = b[j]?) (fun k => [(0, .lf (.pv (encInts a))), (1, .lf (.pv (encInts b))), (5, Go.Rx.I k)]) (fun _ => []) (fun k => a.length - k) [] ?_ ?_
    · exact ⟨0, ⟨Nat.zero_le _, fun j hj => absurd hj (Nat.not_lt_zero _)⟩, ⟨rfl, rfl, rfl, trivial⟩, ⟨[], rfl⟩, rfl, rfl⟩
    · rintro k ⟨hk, hpre⟩
      refine aw_of T_ok (by kernel_rfl) ?_
      conv => whnf
      split <;> rename_i hlt <;> conv => whnf
      · have hka : k < a.length := by simp at hlt; omega
        have hkb : k < b.length := by omega
        refine AW.draw T_ok rfl (seqPl 0 9) (by kernel_rfl) (by kernel_rfl) ?_
        conv => whnf
        refine ⟨by omega, [pI a[k]], by simp [hka], ?_⟩
        conv => whnf
        refine ⟨by omega, [pI b[k]], by simp [hkb], ?_⟩
        conv => whnf
        split <;> rename_i hne <;> conv => whnf
        · refine retB ?_
          symm
          rw [decide_eq_false_iff_not]
          rintro rfl
          have h2 : (a[k] != a[k]) = true := hne
          simp at h2
        · have he : a[k] = b[k] := by
            have h2 : (a[k] != b[k]) = false := hne
            simpa using h2
          refine ⟨k + 1, ⟨⟨by omega, fun j hj => ?_⟩, by omega⟩, ⟨rfl, rfl, congrArg Go.Rx.I (wrapI (by omega)), trivial⟩, ⟨[], rfl⟩, rfl, rfl⟩
          by_cases e : j = k
          · subst e; rw [List.getElem?_eq_getElem hka, List.getElem?_eq_getElem hkb, he]
          · exact hpre j (by omega)
      · refine retB ?_
        symm
        rw [decide_eq_true_eq]
        have hka : k = a.length := by simp at hlt; omega
        apply List.ext_getElem?
        intro j
        rcases Nat.lt_or_ge j k with hj | hj
        · exact hpre j hj
        · rw [List.getElem?_eq_none (by omega), List.getElem?_eq_none (by omega)]
theorem eqLedger_con (a b : Ledger) (ha : a.Ok) : Con P 18 [encLedger a, encLedger b] (Bl (decide (a = b))) [] := by
  refine Con.of T_ok Try.func18 rfl (by kernel_rfl) (by kernel_rfl) (aw_of T_ok (by kernel_rfl) ?_)
  conv => whnf
  repeat' first | refine finB ?_ | (refine callS (eqEntries_con _ _ ha.el) rfl ?_; conv => whnf) | (refine callS (eqNumbers_con _ _ ha.kl) rfl ?_; conv => whnf) | (split <;> conv => whnf)
  all_goals (refine ⟨?_⟩; rw [ledgerEq]; simp [*])
theorem copyEntries_con (l : List Entry) (hl : l.length * 56 ≤ 140737488351232) : Con P 44 [.lf (.pv (encEntries l))] (.lf (.pv (encEntries l))) [] := by
  refine Con.of T_ok Try.func44 rfl (by kernel_rfl) (by kernel_rfl) (aw_of T_ok (by kernel_rfl) ?_)
  conv => whnf
  refine AW.loop (fun k : Nat => k ≤ l.length) (fun k => [(0, .lf (.pv (encEntries l))), (3, .lf (.own 0 k)), (4, Go.Rx.I k)]) (fun k => [.arr 50 5 ((l.take k).map Entry.enc)]) (fun k => l.length - k) [.slot 3 50 5] ?_ ?_
  · exact ⟨rfl, 0, Nat.zero_le _, ⟨rfl, rfl, rfl, trivial⟩, ⟨[], rfl⟩, rfl, rfl⟩
  · intro k hk
    refine aw_of T_ok (by kernel_rfl) ?_
    conv => whnf
    split <;> rename_i hlt <;> conv => whnf
    · have hkl : k < l.length := by simp at hlt; omega
      refine ⟨by omega, (l[k]).enc, by simp [hkl], ?_⟩
      conv => whnf
      refine ⟨rfl, _, .inl rfl, ?_⟩
      conv => whnf
      refine ⟨by simp; omega, by show (k + 1) * 56 ≤ _; omega, ?_⟩
      conv => whnf
      refine ⟨k + 1, ⟨by omega, by omega⟩, ⟨rfl, rfl, congrArg Go.Rx.I (wrapI (by omega)), trivial⟩, ⟨[?r], ?e⟩, rfl, rfl⟩
      case e => show _ = [Blk.arr _ _ (List.map Entry.enc (l.take (k + 1)))] ++ [_]; rw [take_succ' hkl, List.map_append]; rfl
    · have hkl : k = l.length := by simp at hlt; omega
      subst hkl
      refine ⟨by simp, ?_⟩
      refine retA ?_
      show some (AV.lf (.pv (.sl 5 _))) = _
      rw [List.take_length]
theorem copyNumbers_con (l : List Int) (hl : l.length * 8 ≤ 140737488351232) : Con P 45 [.lf (.pv (encInts l))] (.lf (.pv (encInts l))) [] := by
  refine Con.of T_ok Try.func45 rfl (by kernel_rfl) (by kernel_rfl) (aw_of T_ok (by kernel_rfl) ?_)
  conv => whnf
  refine AW.loop (fun k : Nat => k ≤ l.length) (fun k => [(0, .lf (.pv (encInts l))), (3, .lf (.own 0 k)), (4, Go.Rx.I k)]) (fun k => [.arr 3 1 ((l.take k).map fun n => [pI n])]) (fun k => l.length - k) [.slot 3 3 1] ?_ ?_
  · exact ⟨rfl, 0, Nat.zero_le _, ⟨rfl, rfl, rfl, trivial⟩, ⟨[], rfl⟩, rfl, rfl⟩
  · intro k hk
    refine aw_of T_ok (by kernel_rfl) ?_
    conv => whnf
    split <;> rename_i hlt <;> conv => whnf
    · have hkl : k < l.length := by simp at hlt; omega
      refine ⟨by omega, [pI l[k]], by simp [hkl], ?_⟩
      conv => whnf
      refine ⟨rfl, _, .inl rfl, ?_⟩
      conv => whnf
      refine ⟨by simp; omega, by show (k + 1) * 8 ≤ _; omega, ?_⟩
      conv => whnf
      refine ⟨k + 1, ⟨by omega, by omega⟩, ⟨rfl, rfl, congrArg Go.Rx.I (wrapI (by omega)), trivial⟩, ⟨[?r], ?e⟩, rfl, rfl⟩
      case e => show _ = [Blk.arr _ _ (List.map (fun n => [pI n]) (l.take (k + 1)))] ++ [_]; rw [take_succ' hkl, List.map_append]; rfl
    · have hkl : k = l.length := by simp at hlt; omega
      subst hkl
      refine ⟨by simp, ?_⟩
      refine retA ?_
      show some (AV.lf (.pv (.sl 1 _))) = _
      rw [List.take_length]
theorem copyLedger_con (g : Ledger) (h : g.Ok) : Con P 28 [encLedger g] (encLedger g) [] := by
  refine Con.of T_ok Try.func28 rfl (by kernel_rfl) (by kernel_rfl) (aw_of T_ok (by kernel_rfl) ?_)
  conv => whnf
  refine callU (copyEntries_con _ h.el) (fun _ => rfl) ?_
  conv => whnf
  refine callU (copyNumbers_con _ h.kl) (fun _ => rfl) ?_
  conv => whnf
  exact finA ⟨rfl⟩
theorem in_con (l : List Int) (x : Int) (hl : l.length * 8 ≤ 140737488351232) : Con P 38 [.lf (.pv (encInts l)), I x] (I (idxL (· == x) l 0)) [] := by
  refine Con.of T_ok Try.func38 rfl (by kernel_rfl) (by kernel_rfl) (aw_of T_ok (by kernel_rfl) ?_)
  conv => whnf
  refine AW.loop (fun k : Nat => k ≤ l.length ∧ idxL (· == x) (l.drop k) k = idxL (· == x) l 0) (fun k => [(0, .lf (.pv (encInts l))), (1, Go.Rx.I x), (5, Go.Rx.I k)]) (fun _ => []) (fun k => l.length - k) [] ?_ ?_
  · exact ⟨0, ⟨Nat.zero_le _, rfl⟩, ⟨rfl, rfl, rfl, trivial⟩, ⟨[], rfl⟩, rfl, rfl⟩
  · rintro k ⟨hk, hpre⟩
    refine aw_of T_ok (by kernel_rfl) ?_
    conv => whnf
    split <;> rename_i hlt <;> conv => whnf
    · have hkl : k < l.length := by simpa using hlt
      rw [idx_go hkl] at hpre
      refine ⟨by omega, [pI l[k]], by simp [hkl], ?_⟩
      conv => whnf
      split <;> rename_i he <;> conv => whnf
      · refine finI ⟨?_⟩
        rw [← hpre, if_pos (show (l[k] == x) = true from he)]
      · refine ⟨k + 1, ⟨⟨by omega, ?_⟩, by omega⟩, ⟨rfl, rfl, congrArg Go.Rx.I (wrapI (by omega)), trivial⟩, ⟨[], rfl⟩, rfl, rfl⟩
        rw [← hpre, if_neg (by rw [show (l[k] == x) = false from he]; decide)]
    · refine finI ⟨?_⟩
      have hkl : l.length ≤ k := by simpa using hlt
      rw [← hpre, idx_end hkl]
end Go.Proofs.Ytooiiihaijpbaaa.Rx
