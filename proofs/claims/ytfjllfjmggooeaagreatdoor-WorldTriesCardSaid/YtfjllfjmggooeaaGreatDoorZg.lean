/- The texts of the proof, part 7, in order. -/
import Derived.Test.YtfjllfjmggooeaaGreatDoorZf
import Derived.Test.YtfjllfjmggooeaaGreatDoorZd
import Derived.KernelRfl
/- What happens to a ledger: the page's answer. -/
set_option linter.unusedVariables false
set_option linter.unusedSimpArgs false
namespace Go.Rx
def isB (l : List Entry) (of' : Int) (back : Bool) : Bool := !back || l.any fun e => e.key == of' && !e.back
theorem isB_succ {l : List Entry} {of' : Int} {back : Bool} {i : Nat} (h : i < l.length) : isB (l.take (i + 1)) of' back = (isB (l.take i) of' back || ((l[i]).key == of' && !(l[i]).back)) := by
  rw [isB, take_succ' h, List.any_append]; simp [isB, Bool.or_assoc]
def ansH (out : Int) : Int := if out = 3 then 2 else 0
def hapL (g : Ledger) (k of' : Int) (back : Bool) (op who : ByteArray) (n out : Int) : Ledger × Int × Int :=
  if g.known.contains k = true then (g, if out = 2 ∨ out = 3 then 2 else 0, 0)
  else if out = 1 ∨ out = 2 then (g, out, 0)
  else if 200 ≤ g.entries.length ∨ 400 ≤ g.known.length then (zL, 0, 7)
  else (⟨g.service, if isB g.entries of' back then g.entries ++ [⟨k, back, op, who, n⟩] else g.entries, insL g.known (posL g.known k) k⟩, ansH out, 0)
abbrev ledP (p : Ledger × Int × Int) : AV := .tup [tLedger p.1, .lf (.pv (pI p.2.1)), .lf (.pv (pI p.2.2))]
theorem finLP {g : Ledger} {a e : Int} {q : Ledger × Int × Int} (h : Fin (g, a, e) q) : ∃ zs, Fa WkA [encLedger g, Go.Rx.I a, Go.Rx.I e] zs ∧ pack zs = some (ledP q) := by
  refine ⟨_, wk_refl _, ?_⟩
  rw [← h.out]; rfl
theorem finLZ {a e : Int} {q : Ledger × Int × Int} (h : Fin (zL, a, e) q) : ∃ zs, Fa WkA [.agg [.pv (pI 0), .pv (.sc (.slice none 0 0)), .pv (.sc (.slice none 0 0))], Go.Rx.I a, Go.Rx.I e] zs ∧ pack zs = some (ledP q) := by
  refine ⟨[encLedger zL, Go.Rx.I a, Go.Rx.I e], ⟨.inr (.inr ⟨_, _, rfl, rfl, wkE _, wkN 5, wkN 1, trivial⟩), .inl rfl, .inl rfl, trivial⟩, ?_⟩
  rw [← h.out]; rfl
/-- The first that is not less. -/
theorem pos_first {l : List Int} {k : Int} {i : Nat} (hi : i ≤ l.length) (h1 : ∀ t (ht : t < l.length), t < i → l[t] < k) (h2 : ∀ (ht : i < l.length), ¬ l[i] < k) : posL l k = i := by
  have e : l = l.take i ++ l.drop i := (List.take_append_drop i l).symm
  have e1 : (l.take i).takeWhile (fun x => decide (x < k)) = l.take i := tw_all fun x hx => by
    obtain ⟨t, ht, rfl⟩ := List.getElem_of_mem hx
    rw [List.length_take] at ht
    rw [List.getElem_take]
    exact decide_eq_true (h1 t (by omega) (by omega))
  have e2 : (l.drop i).takeWhile (fun x => decide (x < k)) = [] := by
    rcases Nat.lt_or_ge i l.length with hl | hl
    · rw [List.drop_eq_getElem_cons hl, List.takeWhile_cons_of_neg (by have := h2 hl; simpa using this)]
    · rw [List.drop_of_length_le hl]; rfl
  unfold posL
  have e3 : l.takeWhile (fun x => decide (x < k)) = l.take i := by
    conv => lhs; rw [e]
    rw [List.takeWhile_append, e1, if_pos rfl, e2, List.append_nil]
  rw [e3, List.length_take]
  omega
end Go.Rx
namespace Go.Proofs.YtfjllfjmggooeaaGreatDoor.Rx
open Go.Rx Go.Proofs Go.Proofs.YtfjllfjmggooeaaGreatDoor.RxH

theorem copyEntriesO_con (l : List Entry) (hl : l.length * 56 ≤ 140737488351232) : Con P 119 [.lf (.pv (encEntries l))] (.lf (.own 0 l.length)) [.arr 102 5 (l.map Entry.enc)] := by
  refine ConG.con (ConG.of T_ok Tryz.func119 rfl (by kernel_rfl) (by kernel_rfl) (aw_of T_ok (by kernel_rfl) ?_)) rfl
  conv => whnf
  refine AW.loop (fun k : Nat => k ≤ l.length) (fun k => [(0, .lf (.pv (encEntries l))), (3, .lf (.own 0 k)), (4, Go.Rx.I k)]) (fun k => [.arr 102 5 ((l.take k).map Entry.enc)]) (fun k => l.length - k) [.slot 3 102 5] ?_ ?_
  · exact ⟨rfl, 0, Nat.zero_le _, ⟨rfl, rfl, rfl, trivial⟩, ⟨[], rfl⟩, rfl, rfl⟩
  · intro k hk
    refine aw_of T_ok (by kernel_rfl) ?_
    conv => whnf
    split <;> rename_i hlt <;> conv => whnf
    · have hkl : k < l.length := by simp at hlt; omega
      refine ⟨by omega, (l[k]).enc, by simp [hkl], ?_⟩
      conv => whnf
      refine ⟨rfl, _, .inl rfl, ?_⟩
      conv => whnf
      refine ⟨by simp; omega, by show (k + 1) * 56 ≤ _; omega, ?_⟩
      conv => whnf
      refine ⟨k + 1, ⟨by omega, by omega⟩, ⟨rfl, rfl, congrArg Go.Rx.I (wrapI (by omega)), trivial⟩, ⟨[?r], ?e⟩, rfl, rfl⟩
      case e => show _ = [Blk.arr _ _ (List.map Entry.enc (l.take (k + 1)))] ++ [_]; rw [take_succ' hkl, List.map_append]; rfl
    · have hkl : k = l.length := by simp at hlt; omega
      subst hkl
      refine ⟨[], [0], [.lf (.own 0 l.length)], [.lf (.own 0 l.length)], rfl, ?_, rfl, wk_refl _, rfl⟩
      show some [Blk.arr _ 5 ((l.take l.length).map Entry.enc)] = _
      rw [List.take_length]
theorem copyNumbersO_con (l : List Int) (hl : l.length * 8 ≤ 140737488351232) : Con P 49 [.lf (.pv (encInts l))] (.lf (.own 0 l.length)) [.arr 3 1 (intRows l)] := by
  refine ConG.con (ConG.of T_ok Tryz.func49 rfl (by kernel_rfl) (by kernel_rfl) (aw_of T_ok (by kernel_rfl) ?_)) rfl
  conv => whnf
  refine AW.loop (fun k : Nat => k ≤ l.length) (fun k => [(0, .lf (.pv (encInts l))), (3, .lf (.own 0 k)), (4, Go.Rx.I k)]) (fun k => [.arr 3 1 (intRows (l.take k))]) (fun k => l.length - k) [.slot 3 3 1] ?_ ?_
  · exact ⟨rfl, 0, Nat.zero_le _, ⟨rfl, rfl, rfl, trivial⟩, ⟨[], rfl⟩, rfl, rfl⟩
  · intro k hk
    refine aw_of T_ok (by kernel_rfl) ?_
    conv => whnf
    split <;> rename_i hlt <;> conv => whnf
    · have hkl : k < l.length := by simp at hlt; omega
      refine ⟨by omega, [pI l[k]], by simp [hkl], ?_⟩
      conv => whnf
      refine ⟨rfl, _, .inl rfl, ?_⟩
      conv => whnf
      refine ⟨by simp; omega, by show (k + 1) * 8 ≤ _; omega, ?_⟩
      conv => whnf
      refine ⟨k + 1, ⟨by omega, by omega⟩, ⟨rfl, rfl, congrArg Go.Rx.I (wrapI (by omega)), trivial⟩, ⟨[?r], ?e⟩, rfl, rfl⟩
      case e => show _ = [Blk.arr _ _ (List.map (fun n => [pI n]) (l.take (k + 1)))] ++ [_]; rw [take_succ' hkl, List.map_append]; rfl
    · have hkl : k = l.length := by simp at hlt; omega
      subst hkl
      refine ⟨[], [0], [.lf (.own 0 l.length)], [.lf (.own 0 l.length)], rfl, ?_, rfl, wk_refl _, rfl⟩
      show some [Blk.arr _ 1 (intRows (l.take l.length))] = _
      rw [List.take_length]
theorem copyLedgerE_con (g : Ledger) (h : g.Ok) : Con P 81 [encLedger g] (.agg [.pv (pI g.service), .own 0 g.entries.length, .pv (encInts g.known)]) [.arr 102 5 (g.entries.map Entry.enc)] := by
  refine ConG.con (ConG.of T_ok Tryz.func81 rfl (by kernel_rfl) (by kernel_rfl) (aw_of T_ok (by kernel_rfl) ?_)) rfl
  conv => whnf
  refine ⟨_, _, _, wk_refl _, copyEntriesO_con g.entries h.el, .inr ?_⟩
  conv => whnf
  refine callU (copyNumbers_con _ h.kl) (fun _ => rfl) ?_
  conv => whnf
  exact ⟨[], [3], [.agg [.pv (pI g.service), .own 0 g.entries.length, .pv (encInts g.known)]], [.agg [.pv (pI g.service), .own 0 g.entries.length, .pv (encInts g.known)]], rfl, rfl, rfl, wk_refl _, rfl⟩
end Go.Proofs.YtfjllfjmggooeaaGreatDoor.Rx

/- The two answers are one; what writes over a ledger. -/
set_option linter.unusedVariables false
set_option linter.unusedSimpArgs false
namespace Go.Rx
theorem keys_apart {g : Ledger} (h : entriesB g = true) {i j : Nat} (hj : j < g.entries.length) (hij : i < j) : ¬ (g.entries[i]).key = (g.entries[j]).key := by
  have h1 := rng_at h hj
  rw [entryAt, List.getElem?_eq_getElem hj] at h1
  simp only [Bool.and_eq_true, Bool.not_eq_true'] at h1
  have h2 := List.any_eq_false.1 h1.2.2.1 g.entries[i] (by
    refine List.mem_of_getElem? (i := i) ?_
    rw [List.getElem?_take_of_lt hij, List.getElem?_eq_getElem (by omega)])
  intro e
  exact h2 (by simpa using e)
theorem done_any {g : Ledger} (h : entriesB g = true) (k : Int) : (g.entries.any fun e => e.key == k && !e.back) = doneB g.entries k := by
  rw [doneB]
  cases hf : g.entries.find? (fun e => e.key == k) with
  | none =>
    simp only
    refine List.any_eq_false.2 fun e he => ?_
    have := List.find?_eq_none.1 hf e he
    simp only [Bool.and_eq_true, not_and]
    intro h2
    exact absurd h2 this
  | some e =>
    simp only
    have he := List.mem_of_find?_eq_some hf
    have hk : e.key = k := by have := List.find?_some hf; simpa using this
    cases hb : e.back with
    | false => exact List.any_eq_true.2 ⟨e, he, by rw [hb]; simp [hk]⟩
    | true =>
      refine List.any_eq_false.2 fun x hx => ?_
      simp only [Bool.and_eq_true, Bool.not_eq_true', beq_iff_eq, not_and, Bool.not_eq_false]
      intro hxk
      obtain ⟨i, hi, rfl⟩ := List.getElem_of_mem he
      obtain ⟨j, hj, rfl⟩ := List.getElem_of_mem hx
      rcases Nat.lt_trichotomy i j with h1 | h1 | h1
      · exact absurd (hk.trans hxk.symm) (keys_apart h hj h1)
      · subst h1; exact hb
      · exact absurd (hxk.trans hk.symm) (keys_apart h hi h1)
theorem out_cases {out : Int} (h : outB out = true) : out = 0 ∨ out = 1 ∨ out = 2 ∨ out = 3 := by
  rw [outB] at h
  simp only [Bool.and_eq_true, decide_eq_true_eq] at h
  omega
theorem do_hap {g : Ledger} {k of' : Int} {back no : Bool} {op who : ByteArray} {n out : Int} (ho : outB out = true) (hno : no = !(isB g.entries of' back)) : doL g ⟨k, back, op, who, n⟩ no out = hapL g k of' back op who n out := by
  have hc := out_cases ho
  rw [doL, hapL]
  by_cases h1 : g.known.contains k = true
  · rw [if_pos h1, if_pos h1]
    rcases hc with rfl | rfl | rfl | rfl <;> rfl
  · rw [if_neg h1, if_neg h1]
    by_cases h2 : out = 1 ∨ out = 2
    · rw [if_pos h2, if_pos h2]
    · rw [if_neg h2, if_neg h2]
      by_cases h3 : 200 ≤ g.entries.length ∨ 400 ≤ g.known.length
      · rw [if_pos h3, if_pos h3]
      · rw [if_neg h3, if_neg h3, hno]
        have e1 : ansL out = ansH out := by
          rcases hc with rfl | rfl | rfl | rfl
          · rfl
          · exact absurd (.inl rfl) h2
          · exact absurd (.inr rfl) h2
          · rfl
        rw [e1]
        cases isB g.entries of' back <;> rfl
theorem ask_parts {g : Ledger} {k : Int} {op who : ByteArray} {n out : Int} (h : askB g k op who n out = true) : ledgerB g = true ∧ outB out = true := by
  rw [askB, Bool.and_eq_true, Bool.and_eq_true] at h
  exact ⟨h.1, h.2.2⟩
theorem call_hap {g : Ledger} {k of' : Int} {op who : ByteArray} {n out : Int} (h : askB g k op who n out = true) : callL g k op who n out = hapL g k of' false op who n out := by
  rw [callL, if_pos h]
  exact do_hap (ask_parts h).2 (by simp [isB])
theorem undo_hap {g : Ledger} {k of' : Int} {op who : ByteArray} {n out : Int} (h : askB g k op who n out = true) (ho : 1 ≤ of' ∧ of' ≤ 1073741824) : undoL g k of' op who n out = hapL g k of' true op who n out := by
  rw [undoL, if_pos ⟨h, ho⟩]
  have hp := ask_parts h
  refine do_hap hp.2 ?_
  rw [isB, ← done_any (ledger_parts hp.1).2.2.2.1]
  simp
theorem hap_ok {g : Ledger} (h : g.Ok) (hb : ledgerB g = true) {k of' : Int} {back : Bool} {op who : ByteArray} {n out : Int} (ho : okS op) (hw : okS who) : (hapL g k of' back op who n out).1.Ok := by
  have hp := ledger_parts hb
  have hz : zL.Ok := ⟨by decide, by decide, fun e he => by cases he⟩
  rw [hapL]
  split
  · exact h
  split
  · exact h
  split
  · exact hz
  · refine ⟨?_, ?_, ?_⟩
    · show (if isB g.entries of' back = true then _ else _ : List Entry).length * 56 ≤ _
      split
      · rw [List.length_append]; simp; omega
      · omega
    · show (insL g.known _ k).length * 8 ≤ _
      rw [ins_len (posL_le _ _)]; omega
    · intro e he
      replace he : e ∈ (if isB g.entries of' back = true then g.entries ++ [⟨k, back, op, who, n⟩] else g.entries : List Entry) := he
      split at he
      · rw [List.mem_append, List.mem_singleton] at he
        rcases he with he | rfl
        · exact h.each e he
        · exact ⟨ho, hw⟩
      · exact h.each e he
def spoiltE : Entry := ⟨-9, false, ⟨#[]⟩, ⟨#[]⟩, 0⟩
theorem set_next' {α β : Type} {e : α → β} {x : β} {l : List α} {k : Nat} (h : k < l.length) : ((l.take k).map (fun _ => x) ++ (l.drop k).map e).set (k : Int).toNat x = (l.take (k + 1)).map (fun _ => x) ++ (l.drop (k + 1)).map e := by
  have h1 : ((l.take k).map (fun _ => x)).length = k := by rw [List.length_map, List.length_take]; omega
  rw [Int.toNat_natCast, List.set_append_right _ _ (by omega), h1, Nat.sub_self, List.drop_eq_getElem_cons h, List.take_succ_eq_append_getElem h, List.map_append, List.map_cons, List.set_cons_zero, List.append_assoc]
  rfl
end Go.Rx
namespace Go.Proofs.YtfjllfjmggooeaaGreatDoor.Rx
open Go.Rx Go.Proofs Go.Proofs.YtfjllfjmggooeaaGreatDoor.RxH

end Go.Proofs.YtfjllfjmggooeaaGreatDoor.Rx

/- An act on both. -/
set_option linter.unusedVariables false
set_option linter.unusedSimpArgs false
namespace Go.Rx
structure LAct where
  kind : Int
  key : Int
  of' : Int
  op : Int
  n : Int
  out : Int
  who : ByteArray
abbrev LAct.enc (a : LAct) : List PV := [pI a.kind, pI a.key, pI a.of', pI a.op, pI a.n, pI a.out, pS a.who]
abbrev encAct (a : LAct) : AV := .agg [.pv (pI a.kind), .pv (pI a.key), .pv (pI a.of'), .pv (pI a.op), .pv (pI a.n), .pv (pI a.out), .pv (pS a.who)]
abbrev actV (a : LAct) : Blk := .var [.pv (pI a.kind), .pv (pI a.key), .pv (pI a.of'), .pv (pI a.op), .pv (pI a.n), .pv (pI a.out), .pv (pS a.who)]
def pay : ByteArray := ⟨#[112, 97, 121]⟩
def ixO (a : LAct) : Int := within a.op 9 / 4
def opOf (g : Ledger) (a : LAct) : ByteArray := if svB g.service then ((opsS g.service ++ [pay])[(ixO a).toNat]?).getD ⟨#[]⟩ else ⟨#[]⟩
theorem opsS_two {n : Int} (h : svB n = true) : (opsS n).length = 2 := by
  have hn : 1 ≤ n ∧ n ≤ 4 := by simpa [svB] using h
  obtain rfl | rfl | rfl | rfl : n = 1 ∨ n = 2 ∨ n = 3 ∨ n = 4 := by omega
  all_goals rfl
theorem opsS_none {n : Int} (h : svB n = false) : opsS n = [] := by
  have hn : ¬ n = 1 ∧ ¬ n = 2 ∧ ¬ n = 3 ∧ ¬ n = 4 := by
    refine ⟨?_, ?_, ?_, ?_⟩ <;> (rintro rfl; cases h)
  rw [opsS, if_neg hn.1, if_neg hn.2.1, if_neg hn.2.2.1, if_neg hn.2.2.2]
theorem ixO_lt (a : LAct) : 0 ≤ ixO a ∧ ixO a < 3 := by
  have := within_lt (i := a.op) (n := 9) (by decide)
  unfold ixO
  omega
theorem opOf_get {g : Ledger} {a : LAct} (h : svB g.service = true) : (opsS g.service ++ [pay])[(ixO a).toNat]? = some (opOf g a) := by
  have h1 := ixO_lt a
  have h2 : (opsS g.service ++ [pay]).length = 3 := by rw [List.length_append, opsS_two h]; rfl
  rw [opOf, if_pos h, List.getElem?_eq_getElem (by omega)]
  rfl
theorem opOf_ok (g : Ledger) (a : LAct) : okS (opOf g a) := by
  have e0 : okS ⟨#[]⟩ := by decide
  cases h : svB g.service with
  | false => rw [opOf, if_neg (by rw [h]; decide)]; exact e0
  | true =>
    have hg := opOf_get (a := a) h
    have hm := List.mem_of_getElem? hg
    generalize opOf g a = x at hm
    have hn : 1 ≤ g.service ∧ g.service ≤ 4 := by simpa [svB] using h
    obtain e | e | e | e : g.service = 1 ∨ g.service = 2 ∨ g.service = 3 ∨ g.service = 4 := by omega
    all_goals
      rw [e] at hm
      simp only [opsS, List.mem_append, List.mem_singleton] at hm
      simp at hm
      rcases hm with (rfl | rfl) | rfl <;> decide
/-- What an act makes: the program's ledger, the answer, the error. -/
def actL (g : Ledger) (a : LAct) : Ledger × Int × Int := if 3 < within a.kind 8 then undoL g a.key a.of' (opOf g a) a.who a.n a.out else callL g a.key (opOf g a) a.who a.n a.out
def stepLD (g : Ledger) (a : LAct) : Ledger := if within a.kind 8 = 6 ∨ within a.kind 8 = 7 then g else if (actL g a).2.2 = 0 then (actL g a).1 else g
theorem zL_ok : zL.Ok := ⟨by decide, by decide, fun e he => by cases he⟩
theorem call_ok {g : Ledger} (h : g.Ok) {k : Int} {op who : ByteArray} {n out : Int} (ho : okS op) (hw : okS who) : (callL g k op who n out).1.Ok := by
  by_cases hc : askB g k op who n out = true
  · rw [call_hap (of' := 0) hc]; exact hap_ok h (ask_parts hc).1 ho hw
  · rw [callL, if_neg hc]; exact zL_ok
theorem undo_ok {g : Ledger} (h : g.Ok) {k of' : Int} {op who : ByteArray} {n out : Int} (ho : okS op) (hw : okS who) : (undoL g k of' op who n out).1.Ok := by
  by_cases hc : askB g k op who n out = true ∧ 1 ≤ of' ∧ of' ≤ 1073741824
  · rw [undo_hap hc.1 hc.2]; exact hap_ok h (ask_parts hc.1).1 ho hw
  · rw [undoL, if_neg hc]; exact zL_ok
theorem step_ok {g : Ledger} (h : g.Ok) {a : LAct} (hw : okS a.who) : (stepLD g a).Ok := by
  rw [stepLD]; split
  · exact h
  split
  · rw [actL]; split
    · exact undo_ok h (opOf_ok g a) hw
    · exact call_ok h (opOf_ok g a) hw
  · exact h
theorem doL_err (g : Ledger) (x : Entry) (no : Bool) (out : Int) : (doL g x no out).2.2 = 0 ∨ (doL g x no out).2.2 = 7 := by
  rw [doL]; repeat' split
  all_goals simp
theorem call_err (g : Ledger) (k : Int) (op who : ByteArray) (n out : Int) : -9223372036854775808 ≤ (callL g k op who n out).2.2 ∧ (callL g k op who n out).2.2 ≤ 9223372036854775807 := by
  rw [callL]; split
  · rcases doL_err g ⟨k, false, op, who, n⟩ false out with h | h <;> omega
  · simp only; omega
theorem undo_err (g : Ledger) (k of' : Int) (op who : ByteArray) (n out : Int) : -9223372036854775808 ≤ (undoL g k of' op who n out).2.2 ∧ (undoL g k of' op who n out).2.2 ≤ 9223372036854775807 := by
  rw [undoL]; split
  · rcases doL_err g ⟨k, true, op, who, n⟩ (!(doneB g.entries of')) out with h | h <;> omega
  · simp only; omega
abbrev ledB (p : Ledger × Bool) : AV := .tup [tLedger p.1, .lf (.pv (pB p.2))]
theorem finLB {g : Ledger} {b : Bool} {q : Ledger × Bool} (h : Fin (g, b) q) : ∃ zs, Fa WkA [encLedger g, Bl b] zs ∧ pack zs = some (ledB q) := by
  refine ⟨_, wk_refl _, ?_⟩
  rw [← h.out]; rfl
end Go.Rx
namespace Go.Proofs.YtfjllfjmggooeaaGreatDoor.Rx
open Go.Rx Go.Proofs Go.Proofs.YtfjllfjmggooeaaGreatDoor.RxH

abbrev zeroV : Blk := .var [.pv (pI 0), .pv (.sc (.slice none 0 0)), .pv (.sc (.slice none 0 0))]
end Go.Proofs.YtfjllfjmggooeaaGreatDoor.Rx

/- How much a script is; that something happens at all. -/
set_option linter.unusedVariables false
set_option linter.unusedSimpArgs false
namespace Go.Rx
structure LScript where
  g : Ledger
  service : Int
  l : List LAct
abbrev encActs (l : List LAct) : PV := .sl 7 (l.map LAct.enc)
abbrev encScript (p : LScript) : AV := .agg [.pv (pI p.g.service), .pv (encEntries p.g.entries), .pv (encInts p.g.known), .pv (pI p.service), .pv (encActs p.l)]
abbrev scriptV (p : LScript) : Blk := .var [.pv (pI p.g.service), .pv (encEntries p.g.entries), .pv (encInts p.g.known), .pv (pI p.service), .pv (encActs p.l)]
structure LScript.Ok (p : LScript) : Prop where
  g : p.g.Ok
  ll : p.l.length * 64 ≤ 140737488351232
  each : ∀ a ∈ p.l, okS a.who
def credit : ByteArray := ⟨#[99, 114, 101, 100, 105, 116]⟩
def wW : ByteArray := ⟨#[119]⟩
def gW0 : Ledger := ⟨1, [], []⟩
def gW1 : Ledger := ⟨1, [⟨5, false, credit, wW, 3⟩], [5]⟩
theorem w0_ok : gW0.Ok := ⟨by decide, by decide, fun e he => by cases he⟩
theorem w1_ok : gW1.Ok := ⟨by decide, by decide, fun e he => by
  have : e = ⟨5, false, credit, wW, 3⟩ := by simpa [gW1] using he
  subst this
  exact ⟨by decide, by decide⟩⟩
theorem wk1 : newP 1 = (gW0, 0) := by kernel_rfl
theorem wk2 : callL gW0 5 credit wW 3 0 = (gW1, 0, 0) := by kernel_rfl
theorem wk3 : callL gW1 5 credit wW 3 0 = (gW1, 0, 0) := by kernel_rfl
end Go.Rx
namespace Go.Proofs.YtfjllfjmggooeaaGreatDoor.Rx
open Go.Rx Go.Proofs Go.Proofs.YtfjllfjmggooeaaGreatDoor.RxH

theorem ledgerWeight_con (g : Ledger) (h : g.Ok) : ∃ n, Con P 72 [encLedger g] (Go.Rx.I n) [] := by
  have hm : (g.entries.map Entry.enc).length = g.entries.length := List.length_map ..
  have hel := h.el
  obtain ⟨ws, hws⟩ : ∃ ws, ws = g.entries.map fun e => ((e.who.size : Int) / 8) := ⟨_, rfl⟩
  obtain ⟨n0, hn0⟩ : ∃ n0, n0 = IntKind.i64.wrap (((g.entries.map Entry.enc).length : Int) + ((g.known.map fun n => [pI n]).length : Nat)) := ⟨_, rfl⟩
  refine ⟨capSum ws n0, Con.of T_ok Tryz.func72 rfl (by kernel_rfl) (by kernel_rfl) (aw_of T_ok (by kernel_rfl) ?_)⟩
  conv => whnf
  refine AW.loop (fun p : Nat × Int => p.1 ≤ g.entries.length ∧ capSum (ws.drop p.1) p.2 = capSum ws n0) (fun p => [(1, .lf (.ptr 0 0)), (3, Go.Rx.I p.2), (4, Go.Rx.I p.1)]) (fun _ => [ledgerV g]) (fun p => g.entries.length - p.1) [] ?_ ?_
  · exact ⟨(0, n0), ⟨Nat.zero_le _, rfl⟩, ⟨rfl, by rw [hn0]; rfl, rfl, trivial⟩, ⟨[], rfl⟩, rfl, rfl⟩
  rintro ⟨k, n⟩ ⟨hk, hsum⟩
  simp only at hk hsum
  have hwl : ws.length = g.entries.length := by rw [hws]; simp
  refine aw_of T_ok (by kernel_rfl) ?_
  conv => whnf
  split <;> rename_i hlt <;> conv => whnf
  · have hkl : k < g.entries.length := by have := of_decide_eq_true hlt; simp only at this; omega
    split <;> rename_i h2 <;> conv => whnf
    · have h2' : n < 1048576 := of_decide_eq_true h2
      have hwho := (h.each _ (List.getElem_mem hkl)).who
      simp only [okS] at hwho
      refine ⟨by show (0 : Int) ≤ (k : Int); omega, (g.entries[k]).enc, by simp [hkl], ?_⟩
      conv => whnf
      refine ⟨by omega, by decide, by omega, ?_⟩
      conv => whnf
      rw [capSum_go (by omega) h2', show ws[k]'(by omega) = ((g.entries[k]).who.size : Int) / 8 by simp [hws]] at hsum
      exact ⟨(k + 1, _), ⟨⟨by simp only; omega, hsum⟩, by simp only; omega⟩, ⟨rfl, rfl, congrArg Go.Rx.I (wrapI (by simp only; omega)), trivial⟩, ⟨_, rfl⟩, rfl, rfl⟩
    · have h2' : ¬ n < 1048576 := of_decide_eq_false h2
      rw [capSum_stop h2'] at hsum
      exact finI ⟨hsum⟩
  · have hkl : g.entries.length ≤ k := by have := of_decide_eq_false hlt; simp only at this; omega
    rw [List.drop_of_length_le (by omega), capSum] at hsum
    exact finI ⟨hsum⟩
end Go.Proofs.YtfjllfjmggooeaaGreatDoor.Rx

/- Whatever is called, and undone, each act tells the same. -/
set_option linter.unusedVariables false
set_option linter.unusedSimpArgs false
namespace Go.Proofs.YtfjllfjmggooeaaGreatDoor.Rx
open Go.Rx Go.Proofs Go.Proofs.YtfjllfjmggooeaaGreatDoor.RxH

end Go.Proofs.YtfjllfjmggooeaaGreatDoor.Rx

/- Acts of some kinds, in turn. -/
set_option linter.unusedVariables false
set_option linter.unusedSimpArgs false
namespace Go.Rx
def onlyA (out : Int) (ks : List Int) (a : LAct) (i : Nat) : LAct := ⟨(ks[i % ks.length]?).getD 0, a.key, a.of', a.op, a.n, if 0 ≤ out ∧ i % 2 = 0 then out else a.out, a.who⟩
def onlyL (out : Int) (ks : List Int) (l : List LAct) : List LAct := l.zipIdx.map fun q => onlyA out ks q.1 q.2
def onlyS (p : LScript) (out sv : Int) (ks : List Int) : LScript := ⟨if 0 < sv then ⟨sv, [], []⟩ else p.g, if 0 < sv then IntKind.i64.wrap (sv - 1) else p.service, onlyL out ks p.l⟩
theorem onlyL_len (out : Int) (ks : List Int) (l : List LAct) : (onlyL out ks l).length = l.length := by simp [onlyL]
theorem onlyL_take {out : Int} {ks : List Int} {l : List LAct} {k : Nat} (h : k < l.length) : (onlyL out ks l).take (k + 1) = (onlyL out ks l).take k ++ [onlyA out ks l[k] k] := by
  rw [take_succ' (by rw [onlyL_len]; exact h)]
  simp [onlyL]
theorem onlyS_ok {p : LScript} (h : p.Ok) (out sv : Int) (ks : List Int) : (onlyS p out sv ks).Ok := by
  refine ⟨?_, by show (onlyL out ks p.l).length * 64 ≤ _; rw [onlyL_len]; exact h.ll, fun a ha => ?_⟩
  · show (if 0 < sv then _ else _ : Ledger).Ok
    split
    · exact ⟨by show (0 : Nat) * 56 ≤ _; omega, by show (0 : Nat) * 8 ≤ _; omega, fun e he => by cases he⟩
    · exact h.g
  · replace ha : a ∈ onlyL out ks p.l := ha
    obtain ⟨q, hq, rfl⟩ := List.mem_map.1 ha
    obtain ⟨x, i⟩ := q
    have := List.mem_zipIdx hq
    exact h.each x (by rw [this.2.2]; exact List.getElem_mem _)
end Go.Rx
namespace Go.Proofs.YtfjllfjmggooeaaGreatDoor.Rx
open Go.Rx Go.Proofs Go.Proofs.YtfjllfjmggooeaaGreatDoor.RxH

abbrev zeroS : Blk := .var [.pv (pI 0), .pv (.sc (.slice none 0 0)), .pv (.sc (.slice none 0 0)), .pv (pI 0), .pv (.sc (.slice none 0 0))]
end Go.Proofs.YtfjllfjmggooeaaGreatDoor.Rx

/- A ledger stays one; what a key, once there, stands for. -/
set_option linter.unusedVariables false
set_option linter.unusedSimpArgs false
namespace Go.Rx
theorem pos_cons_lt {a k : Int} {l : List Int} (h : a < k) : posL (a :: l) k = posL l k + 1 := by
  unfold posL; rw [List.takeWhile_cons, if_pos (by simpa using h)]; rfl
theorem pos_cons_ge {a k : Int} {l : List Int} (h : ¬ a < k) : posL (a :: l) k = 0 := by
  unfold posL; rw [List.takeWhile_cons, if_neg (by simpa using h)]; rfl
theorem pos_split {k : Int} : ∀ {l : List Int}, l.Pairwise (· < ·) → l.contains k = false → (∀ a ∈ l.take (posL l k), a < k) ∧ (∀ b ∈ l.drop (posL l k), k < b)
  | [], _, _ => ⟨fun a h => by simp at h, fun a h => by simp at h⟩
  | a :: l, hs, hc => by
    rw [List.pairwise_cons] at hs
    have hne : ¬ k = a := fun e => by subst e; simp at hc
    have hcl : l.contains k = false := by simp at hc ⊢; exact hc.2
    by_cases h : a < k
    · rw [pos_cons_lt h, List.take_succ_cons, List.drop_succ_cons]
      have ih := pos_split hs.2 hcl
      refine ⟨fun x hx => ?_, ih.2⟩
      rcases List.mem_cons.1 hx with rfl | hx
      · exact h
      · exact ih.1 x hx
    · rw [pos_cons_ge h]
      refine ⟨fun x hx => by simp at hx, fun b hb => ?_⟩
      rcases List.mem_cons.1 hb with rfl | hb
      · omega
      · have := hs.1 b hb; omega
theorem known_of {l : List Int} (h1 : ∀ x ∈ l, keyB x = true) (h2 : l.Pairwise (· < ·)) : knownB l = true := by
  refine rng_yes fun j hj => ?_
  rw [knownAt, List.getD_eq_getElem?_getD, List.getElem?_eq_getElem hj, Option.getD_some, h1 _ (List.getElem_mem hj), Bool.true_and]
  rcases Nat.eq_zero_or_pos j with rfl | h
  · rfl
  · rw [List.getD_eq_getElem?_getD, List.getElem?_eq_getElem (show j - 1 < l.length by omega), Option.getD_some]
    have := List.pairwise_iff_getElem.1 h2 (j - 1) j (by omega) hj (by omega)
    simp [this]
theorem ins_known {l : List Int} {k : Int} (h : knownB l = true) (hk : keyB k = true) (hc : l.contains k = false) : knownB (insL l (posL l k) k) = true := by
  have hs := known_sorted h
  have hm : ∀ x ∈ l, keyB x = true := fun x hx => by
    obtain ⟨i, hi, rfl⟩ := List.mem_iff_getElem.1 hx
    exact known_key h hi
  obtain ⟨h1, h2⟩ := pos_split hs hc
  unfold insL
  refine known_of (fun x hx => ?_) ?_
  · rw [List.mem_append, List.mem_cons] at hx
    rcases hx with hx | rfl | hx
    · exact hm x (List.mem_of_mem_take hx)
    · exact hk
    · exact hm x (List.mem_of_mem_drop hx)
  · rw [List.pairwise_append, List.pairwise_cons]
    refine ⟨hs.sublist (List.take_sublist _ _), ⟨h2, hs.sublist (List.drop_sublist _ _)⟩, fun a ha b hb => ?_⟩
    rcases List.mem_cons.1 hb with rfl | hb
    · exact h1 a ha
    · exact Int.lt_trans (h1 a ha) (h2 b hb)
theorem ins_has {l : List Int} {i : Nat} {k y : Int} : (insL l i k).contains y = (l.contains y || y == k) := by
  have : (insL l i k).contains y = ((l.take i ++ l.drop i).contains y || y == k) := by
    unfold insL
    rw [Bool.eq_iff_iff]
    simp only [List.contains_iff_mem, List.mem_append, List.mem_cons, Bool.or_eq_true, beq_iff_eq]
    constructor
    · rintro (h | h | h)
      · exact .inl (.inl h)
      · exact .inr h
      · exact .inl (.inr h)
    · rintro ((h | h) | h)
      · exact .inl h
      · exact .inr (.inr h)
      · exact .inr (.inl h)
  rw [this, List.take_append_drop]
theorem entry_known {g : Ledger} (h : entriesB g = true) {e : Entry} (he : e ∈ g.entries) : g.known.contains e.key = true := by
  obtain ⟨i, hi, rfl⟩ := List.mem_iff_getElem.1 he
  have := rng_at h hi
  rw [entryAt, List.getElem?_eq_getElem hi] at this
  simp only [Bool.and_eq_true] at this
  exact this.2.1
theorem entries_same {g : Ledger} {kn : List Int} (h : entriesB g = true) (hk : ∀ k, g.known.contains k = true → kn.contains k = true) : entriesB ⟨g.service, g.entries, kn⟩ = true := by
  refine rng_yes fun j hj => ?_
  replace hj : j < g.entries.length := hj
  have := rng_at h hj
  rw [entryAt, List.getElem?_eq_getElem hj] at this
  rw [entryAt, show (⟨g.service, g.entries, kn⟩ : Ledger).entries[j]? = some g.entries[j] from List.getElem?_eq_getElem hj]
  simp only [Bool.and_eq_true] at this ⊢
  exact ⟨this.1, hk _ this.2.1, this.2.2⟩
theorem entries_more {g : Ledger} {x : Entry} {kn : List Int} (h : entriesB g = true) (hk : ∀ k, g.known.contains k = true → kn.contains k = true) (hx : keyB x.key = true) (hn : g.known.contains x.key = false) (hc : kn.contains x.key = true)
    (hd : deedB g.service x.op x.who x.n = true) : entriesB ⟨g.service, g.entries ++ [x], kn⟩ = true := by
  refine rng_yes fun j hj => ?_
  replace hj : j < (g.entries ++ [x]).length := hj
  rw [List.length_append, List.length_singleton] at hj
  rcases Nat.lt_or_ge j g.entries.length with hlt | hge
  · have := rng_at h hlt
    rw [entryAt, List.getElem?_eq_getElem hlt] at this
    rw [entryAt, show (⟨g.service, g.entries ++ [x], kn⟩ : Ledger).entries[j]? = some g.entries[j] from by rw [List.getElem?_append_left hlt, List.getElem?_eq_getElem hlt]]
    simp only [Bool.and_eq_true] at this ⊢
    refine ⟨this.1, hk _ this.2.1, ?_, this.2.2.2⟩
    rw [List.take_append_of_le_length (by omega)]
    exact this.2.2.1
  · have hje : j = g.entries.length := by omega
    subst hje
    rw [entryAt, show (⟨g.service, g.entries ++ [x], kn⟩ : Ledger).entries[g.entries.length]? = some x from by rw [List.getElem?_append_right (Nat.le_refl _), Nat.sub_self]; rfl]
    simp only [Bool.and_eq_true, Bool.not_eq_true', List.any_eq_false]
    refine ⟨hx, hc, fun y hy => ?_, hd⟩
    rw [List.take_append_of_le_length (Nat.le_refl _), List.take_length] at hy
    have := entry_known h hy
    simp only [beq_iff_eq]
    intro e
    rw [e, hn] at this
    cases this
structure Did (g : Ledger) (x : Entry) (no : Bool) (d : Ledger × Int × Int) : Prop where
  err : d.2.2 = 0
  may : ledgerB d.1 = true
  sv : d.1.service = g.service
  keep : ∀ k, g.known.contains k = true → d.1.known.contains k = true
  kl : d.1.known.length ≤ g.known.length + 1
  has : d.2.1 = 0 → d.1.known.contains x.key = true
  en : d.1.entries = g.entries ∨ (d.1.entries = g.entries ++ [x] ∧ no = false ∧ g.known.contains x.key = false)
theorem may_of {g : Ledger} (h1 : 1 ≤ g.service ∧ g.service ≤ 4) (h2 : g.known.length ≤ 400) (h3 : knownB g.known = true) (h4 : entriesB g = true) (h5 : g.entries.length ≤ 200) : ledgerB g = true := by
  rw [ledgerB, svB, h3, h4]; simp [h1, h2, h5]
theorem do_did {g : Ledger} {x : Entry} {no : Bool} {out : Int} (hb : ledgerB g = true) (hk : keyB x.key = true) (hd : deedB g.service x.op x.who x.n = true) (he : g.entries.length < 200) (hl : g.known.length < 400) : Did g x no (doL g x no out) := by
  obtain ⟨hsv, _, hkn, hen, _⟩ := ledger_parts hb
  rw [doL]
  by_cases h1 : g.known.contains x.key = true
  · rw [if_pos h1]
    exact ⟨rfl, hb, rfl, fun k h => h, by simp only; omega, fun _ => h1, .inl rfl⟩
  have h1' : g.known.contains x.key = false := by simpa using h1
  rw [if_neg h1]
  by_cases h2 : out = 1 ∨ out = 2
  · rw [if_pos h2]
    exact ⟨rfl, hb, rfl, fun k h => h, by simp only; omega, fun e => by simp only at e; omega, .inl rfl⟩
  rw [if_neg h2, if_neg (by omega)]
  have hkeep : ∀ k, g.known.contains k = true → (insL g.known (posL g.known x.key) x.key).contains k = true := fun k h => by rw [ins_has, h]; rfl
  have hself : (insL g.known (posL g.known x.key) x.key).contains x.key = true := by rw [ins_has]; simp
  have hlen := ins_len (x := x.key) (posL_le g.known x.key)
  cases no with
  | true =>
    refine ⟨rfl, may_of hsv ?_ (ins_known hkn hk h1') (entries_same hen hkeep) ?_, rfl, hkeep, ?_, fun _ => hself, .inl rfl⟩
    · show (insL _ _ _).length ≤ 400; omega
    · show g.entries.length ≤ 200; omega
    · show (insL _ _ _).length ≤ _; omega
  | false =>
    refine ⟨rfl, may_of hsv ?_ (ins_known hkn hk h1') (entries_more hen hkeep hk h1' hself hd) ?_, rfl, hkeep, ?_, fun _ => hself, .inr ⟨rfl, rfl, h1'⟩⟩
    · show (insL _ _ _).length ≤ 400; omega
    · show (g.entries ++ [x]).length ≤ 200; rw [List.length_append, List.length_singleton]; omega
    · show (insL _ _ _).length ≤ _; omega
theorem done_known {g : Ledger} (h : entriesB g = true) {k : Int} (hd : doneB g.entries k = true) : g.known.contains k = true := by
  unfold doneB at hd
  split at hd
  · rename_i e hf
    have hm := List.mem_of_find?_eq_some hf
    have hk := List.find?_some hf
    have := entry_known h hm
    rw [eq_of_beq hk] at this
    exact this
  · cases hd
/-- Entries of one script: whose they are, and which way they go. -/
def Fine (a : ByteArray) (e : Entry) : Prop := e.who = wW ∧ e.n = 1 ∧ (e.back = true → ¬ e.op = a) ∧ (e.back = false → e.op = a)
def cntGo : List Entry → Int → Int
  | [], n => n
  | x :: l, n => cntGo l (if x.back then IntKind.i64.wrap (n - 1) else IntKind.i64.wrap (n + 1))
theorem cnt_go {l : List Entry} {k : Nat} {n : Int} (h : k < l.length) : cntGo (l.drop k) n = cntGo (l.drop (k + 1)) (if (l[k]).back then IntKind.i64.wrap (n - 1) else IntKind.i64.wrap (n + 1)) := by
  rw [List.drop_eq_getElem_cons h, cntGo]
theorem sum_cnt {a : ByteArray} : ∀ {l : List Entry} {n : Int}, (∀ e ∈ l, Fine a e) → sumGo a wW l n = cntGo l n
  | [], n, _ => rfl
  | x :: l, n, h => by
    obtain ⟨h1, h2, h3, h4⟩ := h x (by simp)
    rw [sumGo, cntGo, if_pos h1, h2, sum_cnt fun e he => h e (by simp [he])]
    cases hb : x.back with
    | true => rw [if_neg (h3 hb), if_pos rfl]
    | false => rw [if_pos (h4 hb), if_neg (by decide)]
structure On (sv : Int) (a : ByteArray) (i : Nat) (x : Ledger) : Prop where
  ok : x.Ok
  may : ledgerB x = true
  sv : x.service = sv
  el : x.entries.length ≤ i
  kl : x.known.length ≤ i
  fine : ∀ e ∈ x.entries, Fine a e
theorem On.goes {sv : Int} {a : ByteArray} {i : Nat} {x : Ledger} {y : Entry} {no : Bool} {d : Ledger × Int × Int} (h : On sv a i x) (hy : okS y.op ∧ okS y.who) (hf : Fine a y) (hi : i < 24) (hd : Did x y no d) : On sv a (i + 1) d.1 := by
  have hel := h.el
  have hkl := h.kl
  have hk := hd.kl
  rcases hd.en with he | ⟨he, _, _⟩
  · exact ⟨⟨by rw [he]; exact h.ok.el, by omega, fun e hm => h.ok.each e (he ▸ hm)⟩, hd.may, hd.sv.trans h.sv, by rw [he]; omega, by omega, fun e hm => h.fine e (he ▸ hm)⟩
  · have hl : d.1.entries.length = x.entries.length + 1 := by rw [he]; simp
    refine ⟨⟨by omega, by omega, fun e hm => ?_⟩, hd.may, hd.sv.trans h.sv, by omega, by omega, fun e hm => ?_⟩
    · rw [he, List.mem_append, List.mem_singleton] at hm
      rcases hm with hm | rfl
      · exact h.ok.each e hm
      · exact ⟨hy.1, hy.2⟩
    · rw [he, List.mem_append, List.mem_singleton] at hm
      rcases hm with hm | rfl
      · exact h.fine e hm
      · exact hf
end Go.Rx
namespace Go.Proofs.YtfjllfjmggooeaaGreatDoor.Rx
open Go.Rx Go.Proofs Go.Proofs.YtfjllfjmggooeaaGreatDoor.RxH

end Go.Proofs.YtfjllfjmggooeaaGreatDoor.Rx

/- Worlds that may be: what holds of each, and how a step keeps it. -/
set_option linter.unusedVariables false
set_option linter.unusedSimpArgs false
namespace Go.Rx
theorem file_ok {f : FileS} (h : fileB f = true) : f.Ok := by
  have := fileB_iff.1 h
  exact ⟨by show f.safe.size ≤ _; omega, by show f.tail.size ≤ _; omega⟩
theorem recB_ok {r : Rec} (h : recB r = true) : r.Ok := by
  have hs := small_of h
  have h1 := hs.key
  have h2 := hs.body
  have h3 := hs.len
  exact ⟨by show r.key.size ≤ _; omega, by show r.body.size ≤ _; omega, by omega, fun x hx => by
    have := hs.st x hx
    exact ⟨by show x.nm.size ≤ _; omega, by show x.op.size ≤ _; omega, by show x.undo.size ≤ _; omega, by show x.who.size ≤ _; omega⟩⟩
theorem sagaB_ok {s : Saga} (h : sagaB s = true) : s.Ok := by
  have := recB_ok (parts_iff.1 h).rc
  exact ⟨this.key, this.body, this.steps⟩
theorem entry_deed {g : Ledger} (h : entriesB g = true) {e : Entry} (he : e ∈ g.entries) : deedB g.service e.op e.who e.n = true := by
  obtain ⟨i, hi, rfl⟩ := List.mem_iff_getElem.1 he
  have := rng_at h hi
  rw [entryAt, List.getElem?_eq_getElem hi] at this
  simp only [Bool.and_eq_true] at this
  exact this.2.2.2
theorem ledgerB_ok {g : Ledger} (h : ledgerB g = true) : g.Ok := by
  obtain ⟨_, h2, _, h4, h5⟩ := ledger_parts h
  refine ⟨by omega, by omega, fun e he => ?_⟩
  have hd := entry_deed h4 he
  simp only [deedB, Bool.and_eq_true, shortB, decide_eq_true_eq] at hd
  have := ops_small hd.1
  exact ⟨by show e.op.size ≤ _; omega, by show e.who.size ≤ _; omega⟩
structure LInv (v : Live) (tb : Int) : Prop where
  t0 : 0 ≤ v.tries
  t1 : v.tries ≤ tb
  d0 : 0 ≤ v.due
  d1 : v.due ≤ 1073741832
  wr : (v.write = zRec ∧ v.put = false) ∨ (¬ v.write.kind = 1 ∧ recB v.write = true ∧ fitsL v = true)
structure WInv (w : Wd) (tb : Int) : Prop where
  c0 : 0 ≤ w.clock
  c1 : w.clock ≤ 1073741824
  k0 : 0 ≤ w.taken
  k1 : w.taken ≤ tb
  ol : w.outs.length ≤ 400
  ob : w.outs.any outBad = false
  file : fileB w.file = true
  ledgers : ledgersB w.ledgers = true
  tog : togB (sagasL w.lives) = true
  lives : ∀ v ∈ w.lives, LInv v tb
theorem LInv.mono {v : Live} {a b : Int} (h : LInv v a) (hab : a ≤ b) : LInv v b := ⟨h.t0, Int.le_trans h.t1 hab, h.d0, h.d1, h.wr⟩
theorem WInv.mono {w : Wd} {a b : Int} (h : WInv w a) (hab : a ≤ b) : WInv w b := ⟨h.c0, h.c1, h.k0, Int.le_trans h.k1 hab, h.ol, h.ob, h.file, h.ledgers, h.tog, fun v hv => (h.lives v hv).mono hab⟩
theorem nothing_iff {r : Rec} : nothingB r = true ↔ r = zRec := by
  obtain ⟨k, i, n, key, body, steps⟩ := r
  unfold nothingB zRec
  simp only [Bool.and_eq_true, beq_iff_eq, Rec.mk.injEq]
  constructor
  · rintro ⟨h1, h2, h3, h4, h5, h6⟩
    exact ⟨h1, h2, h3, h4, h5, List.eq_nil_of_length_eq_zero (by omega)⟩
  · rintro ⟨h1, h2, h3, h4, h5, h6⟩
    exact ⟨h1, h2, h3, h4, h5, by rw [h6]; rfl⟩
theorem rec_kind {r : Rec} (h : recB r = true) : 1 ≤ r.kind ∧ r.kind ≤ 6 := by
  unfold recB at h
  rw [Bool.and_eq_true] at h
  by_cases k : r.kind = 1
  · omega
  · have h2 := h.2
    rw [if_neg k, Bool.and_eq_true] at h2
    have h3 := h2.2
    unfold kindB at h3
    split at h3
    · omega
    split at h3
    · omega
    split at h3
    · omega
    · cases h3
theorem LInv.zero {v : Live} {tb : Int} (h : LInv v tb) : v.write.kind = 0 ↔ v.write = zRec := by
  constructor
  · intro e
    rcases h.wr with h1 | h1
    · exact h1.1
    · have := rec_kind h1.2.1; omega
  · intro e; rw [e]; rfl
theorem liveB_iff {v : Live} : liveB v = true ↔ LInv v 1073741824 := by
  unfold liveB
  constructor
  · intro h
    split at h
    · cases h
    rename_i h1
    simp only [Bool.or_eq_true, decide_eq_true_eq, not_or, Int.not_lt] at h1
    split at h
    · rename_i h2
      exact ⟨h1.1, h1.2.1, h1.2.2.1, h1.2.2.2, .inl ⟨nothing_iff.1 h2, by simpa using h⟩⟩
    · simp only [Bool.and_eq_true, bne_iff_ne] at h
      exact ⟨h1.1, h1.2.1, h1.2.2.1, h1.2.2.2, .inr ⟨h.1, h.2.1, h.2.2⟩⟩
  · intro h
    have h0 := h.t0
    have h1 := h.t1
    have h2 := h.d0
    have h3 := h.d1
    rw [if_neg (by simp; omega)]
    rcases h.wr with ⟨e1, e2⟩ | ⟨e1, e2, e3⟩
    · rw [if_pos (nothing_iff.2 e1), e2]; rfl
    · have hk := rec_kind e2
      have hn : ¬ nothingB v.write = true := fun e => by
        rw [nothing_iff.1 e] at hk
        have : (zRec).kind = 0 := rfl
        omega
      rw [if_neg hn, e2, e3]
      simp [e1]
theorem worldB_iff {w : Wd} : worldB w = true ↔ WInv w 1073741824 := by
  unfold worldB
  constructor
  · intro h
    split at h
    · cases h
    rename_i h1
    simp only [Bool.or_eq_true, decide_eq_true_eq, not_or, Int.not_lt, Bool.not_eq_true] at h1
    split at h
    · cases h
    rename_i h2
    simp only [Bool.or_eq_true, Bool.not_eq_true', not_or, Bool.not_eq_false] at h2
    simp only [Bool.not_eq_true', List.any_eq_false, Bool.not_eq_false] at h
    exact ⟨h1.1, h1.2.1, h1.2.2.1, h1.2.2.2.1, by omega, h1.2.2.2.2.2, h2.1, h2.2.1, h2.2.2, fun v hv => liveB_iff.1 (h v hv)⟩
  · intro h
    have h0 := h.c0
    have h1 := h.c1
    have h2 := h.k0
    have h3 := h.k1
    have h4 := h.ol
    rw [if_neg (by rw [h.ob]; simp; omega), if_neg (by rw [h.file, h.ledgers, h.tog]; decide)]
    simp only [Bool.not_eq_true', List.any_eq_false, Bool.not_eq_false]
    exact fun v hv => liveB_iff.2 (h.lives v hv)
theorem ledgersGo_iff : ∀ {l : List Ledger} {k : Nat}, ledgersGo l k = true ↔ ∀ (i : Nat) (g : Ledger), l[i]? = some g → g.service = ((k + i + 1 : Nat) : Int) ∧ ledgerB g = true
  | [], k => by simp [ledgersGo]
  | g :: l, k => by
    rw [ledgersGo, Bool.and_eq_true, Bool.and_eq_true, ledgersGo_iff, beq_iff_eq]
    constructor
    · rintro ⟨h1, h2⟩ i x hx
      cases i with
      | zero => simp at hx; subst hx; exact h1
      | succ i =>
        have := h2 i x (by simpa using hx)
        rw [show k + (i + 1) + 1 = k + 1 + i + 1 by omega]
        exact this
    · intro h
      refine ⟨h 0 g rfl, fun i x hx => ?_⟩
      have := h (i + 1) x (by simpa using hx)
      rw [show k + (i + 1) + 1 = k + 1 + i + 1 by omega] at this
      exact this
structure LedsInv (l : List Ledger) : Prop where
  len : l.length = 4
  at' : ∀ (i : Nat) (g : Ledger), l[i]? = some g → g.service = ((i + 1 : Nat) : Int) ∧ ledgerB g = true
theorem ledgersB_iff {l : List Ledger} : ledgersB l = true ↔ LedsInv l := by
  rw [ledgersB, Bool.and_eq_true, ledgersGo_iff, beq_iff_eq]
  constructor
  · rintro ⟨h1, h2⟩
    exact ⟨by omega, fun i g hg => by have := h1 i g hg; rw [Nat.zero_add] at this; exact this⟩
  · rintro ⟨h1, h2⟩
    exact ⟨fun i g hg => by rw [Nat.zero_add]; exact h2 i g hg, by omega⟩
theorem WInv.saga {w : Wd} {tb : Int} (h : WInv w tb) {v : Live} (hv : v ∈ w.lives) : sagaB v.saga = true := tog_saga h.tog hv
theorem WInv.len {w : Wd} {tb : Int} (h : WInv w tb) : w.lives.length ≤ 20 := by
  have := h.tog
  rw [togB, Bool.and_eq_true, decide_eq_true_eq, sagasL, List.length_map] at this
  exact this.2
theorem zRec_ok : zRec.Ok := ⟨by show (0 : Nat) ≤ _; omega, by show (0 : Nat) ≤ _; omega, by show (0 : Nat) * 80 ≤ _; omega, fun x hx => by cases hx⟩
theorem LInv.wok {v : Live} {tb : Int} (h : LInv v tb) : v.write.Ok := by
  rcases h.wr with h1 | h1
  · rw [h1.1]; exact zRec_ok
  · exact recB_ok h1.2.1
theorem WInv.wok {w : Wd} {tb : Int} (h : WInv w tb) : w.Ok := by
  have h1 := ledgersB_iff.1 h.ledgers
  have h2 := h.len
  have h3 := h.ol
  have h4 := h1.len
  refine ⟨file_ok h.file, by omega, by omega, by omega, fun g hg => ?_, fun v hv => ⟨sagaB_ok (h.saga hv), (h.lives v hv).wok⟩⟩
  obtain ⟨i, hi, e⟩ := List.mem_iff_getElem.1 hg
  exact ledgerB_ok (h1.at' i g (by rw [← e]; exact List.getElem?_eq_getElem hi)).2
theorem sv_of {n : Int} {d : ByteArray} (h : (opsS n).any (d == ·) = true) : 1 ≤ n ∧ n ≤ 4 := by
  unfold opsS at h
  split at h
  · omega
  split at h
  · omega
  split at h
  · omega
  split at h
  · omega
  · cases h
/-- A step of a saga that may be. -/
theorem step_may {s : Saga} (h : sagaB s = true) {i : Nat} (hi : i < s.steps.length) : okStep s.steps[i] = true := by
  have h1 := (parts_iff.1 h).rc
  rw [recB, Bool.and_eq_true, if_pos rfl, begB] at h1
  simp only [Bool.and_eq_true, stepsB] at h1
  have h2 := List.all_eq_true.1 h1.2.2.2.2.2.2.1 i (List.mem_range.2 hi)
  have h3 := (Bool.and_eq_true _ _ ▸ (okAt_eq hi ▸ h2 : (okStep s.steps[i] && _) = true))
  exact h3.1
structure StepIn (s : Saga) (i : Nat) : Prop where
  lt : i < s.steps.length
  at' : stepI s = i
  i5 : i < 5
theorem call_at {s : Saga} (h : sagaB s = true) (hst : s.status = 0) (h1 : (!s.back && (s.done == (s.steps.length : Int))) = false) (h2 : (s.back && (s.left == 0)) = false) (h3 : (!s.back && !s.out) = false) : ∃ i, StepIn s i := by
  have hp := parts_iff.1 h
  have hl := parts_len hp
  have p0 := hp.d0
  have p1 := hp.d1
  have p2 := hp.l0
  have p3 := hp.l1
  have p4 := hp.ou
  have hm := most_le hp
  unfold mostI at p3 hm
  cases hb : s.back with
  | false =>
    rw [hb] at h1
    have h1' : ¬ s.done = s.steps.length := by simpa using h1
    exact ⟨s.done.toNat, by omega, by rw [stepI, hb, if_neg (by decide)]; omega, by omega⟩
  | true =>
    rw [hb] at h2
    have h2' : ¬ s.left = 0 := by simpa using h2
    have hlt : (s.left - 1).toNat < s.steps.length := by
      split at p3
      · rename_i ho
        have := p4 ho
        omega
      · omega
    exact ⟨(s.left - 1).toNat, hlt, by rw [stepI, hb, if_pos rfl, wrapI (by omega)]; omega, by omega⟩
end Go.Rx

/- A step keeps a world such as it may be. -/
set_option linter.unusedVariables false
set_option linter.unusedSimpArgs false
namespace Go.Rx
theorem longGo_le : ∀ (k : Nat) (n : Int), 0 ≤ n → n ≤ 8 → 0 ≤ longGo k n ∧ longGo k n ≤ 8
  | 0, n, h0, h1 => ⟨h0, h1⟩
  | k + 1, n, h0, h1 => by
    rw [longGo, wrapI (n := 2 * n) (by omega)]
    refine longGo_le k _ ?_ ?_ <;> split <;> omega
theorem long_le (t : Int) : 0 ≤ longI t ∧ longI t ≤ 8 := longGo_le _ 1 (by omega) (by omega)
theorem step_pair {s : Saga} (h : sagaB s = true) {i : Nat} (hi : i < s.steps.length) : ((opsS s.steps[i].service).any (s.steps[i].op == ·) = true ∧ (opsS s.steps[i].service).any (s.steps[i].undo == ·) = true ∧ s.steps[i].op ≠ s.steps[i].undo) ∧ shortB s.steps[i].who = true ∧ -1073741824 ≤ s.steps[i].n ∧ s.steps[i].n ≤ 1073741824 := by
  have h1 := step_may h hi
  simp only [okStep, pairB, numB, Bool.and_eq_true, Bool.not_eq_true', beq_eq_false_iff_ne, decide_eq_true_eq] at h1
  exact ⟨⟨h1.1.1.2.1.1, h1.1.1.2.1.2, h1.1.1.2.2⟩, h1.1.2, h1.2⟩
theorem WInv.call {w : Wd} {tb : Int} (h : WInv w tb) {s : Saga} (hs : sagaB s = true) {i : Nat} (hi : StepIn s i) : CallOk w s := by
  have hg := ledgersB_iff.1 h.ledgers
  have hp := parts_iff.1 hs
  have hm := most_le hp
  have p2 := hp.l0
  have p3 := hp.l1
  have hol := h.ol
  have hlt := hi.lt
  have hat := hi.at'
  have hst : stepAt s = s.steps[i] := by
    rw [stepAt, hat]
    simp [hlt]
  have hpr := step_pair hs hlt
  have hok := h.wok.ledgers
  refine ⟨h.k0, by omega, fun _ => by omega, by omega, by omega, hg.len, by rw [hst]; exact sv_of hpr.1.1, hok, fun g hm => ?_⟩
  obtain ⟨j, hj, e⟩ := List.mem_iff_getElem.1 hm
  have hb := (hg.at' j g (by rw [← e]; exact List.getElem?_eq_getElem hj)).2
  exact known_sorted (ledger_parts hb).2.2.1
theorem WInv.move {w : Wd} {tb : Int} (h : WInv w tb) (ht : tb ≤ 4611686018427387903) {v : Live} (hv : v ∈ w.lives) (hd : dueB w.clock v = true) : MoveOk w v := by
  have hl := h.lives v hv
  have hs := h.saga hv
  have ht0 := hl.t0
  have ht1 := hl.t1
  have hst : v.saga.status = 0 := by rw [dueB, Bool.and_eq_true] at hd; exact eq_of_beq hd.1
  refine ⟨file_ok h.file, ⟨sagaB_ok hs, hl.wok⟩, by omega, fun _ h1 h2 h3 => ?_⟩
  obtain ⟨i, hi⟩ := call_at hs hst h1 h2 h3
  exact h.call hs hi
/-! ### What a step leaves -/
theorem app_file {f : FileS} {r : Rec} (h : (jappP f r).2 = 0) : fileB (jappP f r).1 = true := by
  obtain ⟨h1, h2, h3, h4⟩ := japp_ok h
  have := fileB_iff.1 h1
  rw [h3]
  exact fileB_iff.2 ⟨this.1, this.2.1, by show (f.safe.size : Int) + ((f.tail ++ frR r).size : Int) ≤ f.cap; rw [ByteArray.size_append]; omega⟩
theorem sync_file {f : FileS} (h : fileB f = true) : (crashP f f.tail.size).1 = ⟨f.safe ++ f.tail, ⟨#[]⟩, f.cap⟩ := by
  rw [crashP, if_pos h, crashF]
  have e : keepI f f.tail.size = f.tail.size := by unfold keepI; omega
  rw [e]
  have : f.tail.extract 0 f.tail.size = f.tail := ba_ext (by rw [ba_ex, List.drop_zero, Nat.sub_zero, List.take_of_length_le (by rw [ba_len]; exact Nat.le_refl _)])
  rw [this]
theorem sync_may {f : FileS} (h : fileB f = true) : fileB (crashP f f.tail.size).1 = true := by
  rw [sync_file h]
  have := fileB_iff.1 h
  exact fileB_iff.2 ⟨this.1, this.2.1, by show ((f.safe ++ f.tail).size : Int) + ((0 : Nat) : Int) ≤ f.cap; rw [ByteArray.size_append]; omega⟩
theorem tog_set {l : List Saga} {i : Nat} {s x : Saga} (h : togB l = true) (hi : l[i]? = some s) (hx : sagaB x = true) (hid : x.id = s.id) (hk : x.key = s.key) : togB (l.set i x) = true := by
  have hil := (List.getElem?_eq_some_iff.1 hi).1
  have hok : ∀ s ∈ l, s.Ok := fun s hs => by
    rw [togB, Bool.and_eq_true] at h
    obtain ⟨j, hj, e⟩ := List.mem_iff_getElem.1 hs
    have := List.all_eq_true.1 h.1 j (List.mem_range.2 hj)
    rw [togAt_eq hj, Bool.and_eq_true] at this
    rw [← e]
    exact sagaB_ok this.1
  have hs := sgs_tog hok h
  refine tog_sgs ⟨by rw [List.length_set]; exact hs.len, fun j y hy => ?_⟩
  have hjl := (List.getElem?_eq_some_iff.1 hy).1
  rw [List.length_set] at hjl
  -- the key at each place is as it was
  have hkey : ∀ (j : Nat) (y : Saga), (l.set i x)[j]? = some y → ∃ z, l[j]? = some z ∧ y.key = z.key ∧ y.id = z.id := fun j y hy => by
    by_cases e : j = i
    · subst e
      rw [List.getElem?_set_self hil] at hy
      cases hy
      exact ⟨s, hi, hk, hid⟩
    · rw [List.getElem?_set_ne (Ne.symm e)] at hy
      exact ⟨y, hy, rfl, rfl⟩
  obtain ⟨z, hz, e1, e2⟩ := hkey j y hy
  have hat := hs.sg j z hz
  have hyB : sagaB y = true := by
    by_cases e : j = i
    · subst e
      rw [List.getElem?_set_self hil] at hy
      cases hy
      exact hx
    · rw [List.getElem?_set_ne (Ne.symm e)] at hy
      rw [hz] at hy
      cases hy
      exact hat.may
  refine ⟨sagaB_ok hyB, hyB, by rw [e2]; exact hat.id, fun k u hku hu => ?_⟩
  obtain ⟨z', hz', e3, _⟩ := hkey k u hu
  rw [e3, e1]
  exact hat.key k z' hku hz'
theorem do_may {g : Ledger} {x : Entry} {no : Bool} {out : Int} (hb : ledgerB g = true) (hk : keyB x.key = true) (hd : deedB g.service x.op x.who x.n = true) (h : (doL g x no out).2.2 = 0) : ledgerB (doL g x no out).1 = true ∧ (doL g x no out).1.service = g.service := by
  by_cases h1 : g.known.contains x.key = true
  · rw [doL, if_pos h1]; exact ⟨hb, rfl⟩
  by_cases h2 : out = 1 ∨ out = 2
  · rw [doL, if_neg h1, if_pos h2]; exact ⟨hb, rfl⟩
  by_cases h3 : 200 ≤ g.entries.length ∨ 400 ≤ g.known.length
  · rw [doL, if_neg h1, if_neg h2, if_pos h3] at h; cases h
  have := do_did (no := no) (out := out) hb hk hd (by omega) (by omega)
  exact ⟨this.may, this.sv⟩
theorem mem_set_cases {α : Type} {l : List α} {i : Nat} {a x : α} (h : x ∈ l.set i a) : x = a ∨ x ∈ l := by
  rcases List.mem_or_eq_of_mem_set h with h | h
  · exact .inr h
  · exact .inl h
theorem sagas_set (l : List Live) (i : Nat) (v : Live) : sagasL (l.set i v) = (sagasL l).set i v.saga := by rw [sagasL, sagasL, List.map_set]
theorem sagas_at {l : List Live} {i : Nat} {v : Live} (h : l[i]? = some v) : (sagasL l)[i]? = some v.saga := by rw [sagasL, List.getElem?_map, h]; rfl
theorem set_saga {l : List Live} {i : Nat} {v x : Live} (h : l[i]? = some v) (hx : x.saga = v.saga) : sagasL (l.set i x) = sagasL l := by
  rw [sagas_set, hx]
  exact set_same (sagas_at h)
/-- The record that is written next fits. -/
theorem rec_fits {s : Saga} {k n : Int} (hid : 1 ≤ s.id ∧ s.id ≤ 20) (hst : s.status = 0) (hk : ¬ k = 1) (hn : kindB k n = true) (hf : fitsB s ⟨k, s.id, n, ⟨#[]⟩, ⟨#[]⟩, []⟩ = true) :
    recB ⟨k, s.id, n, ⟨#[]⟩, ⟨#[]⟩, []⟩ = true ∧ (((⟨k, s.id, n, ⟨#[]⟩, ⟨#[]⟩, []⟩ : Rec).id == s.id) && (s.status == 0 && fitsB s ⟨k, s.id, n, ⟨#[]⟩, ⟨#[]⟩, []⟩)) = true :=
  ⟨recK_may hid hk hn, by rw [hf, hst]; simp⟩
theorem answered_inv {w : Wd} {tb : Int} {v : Live} (hs : sagaB v.saga = true) (hl : LInv v tb) (ht : tb ≤ 4611686018427387902) (hst : v.saga.status = 0) (hw : v.write = zRec) {i : Nat} (hi : StepIn v.saga i)
    (h1 : (!v.saga.back && (v.saga.done == (v.saga.steps.length : Int))) = false) (h2 : (v.saga.back && (v.saga.left == 0)) = false) (h3 : (!v.saga.back && !v.saga.out) = false) (hc : 0 ≤ w.clock ∧ w.clock ≤ 1073741824) (a : Int) :
    LInv (if (answeredL w.clock v a).2.2 then { (answeredL w.clock v a).1 with write := (answeredL w.clock v a).2.1 } else (answeredL w.clock v a).1) (tb + 1) ∧ (answeredL w.clock v a).1.saga = v.saga := by
  have hp := parts_iff.1 hs
  have hl4 := parts_len hp
  have hid : 1 ≤ v.saga.id ∧ v.saga.id ≤ 20 := ⟨hl4.2.2.1, hl4.2.2.2⟩
  have t0 := hl.t0
  have t1 := hl.t1
  have d0 := hl.d0
  have d1 := hl.d1
  have p0 := hp.d0
  have p1 := hp.d1
  have p2 := hp.l0
  have p3 := hp.l1
  have hmm := most_le hp
  have hi5 := hi.i5
  have hat := hi.at'
  have hput : v.put = false := by
    rcases hl.wr with h | h
    · exact h.2
    · rw [hw] at h; exact absurd (rec_kind h.2.1) (by show ¬ (1 ≤ (0 : Int) ∧ _); omega)
  have hwt : IntKind.i64.wrap (v.tries + 1) = v.tries + 1 := wrapI (by omega)
  have hlong := long_le (IntKind.i64.wrap (v.tries + 1))
  have hdue : IntKind.i64.wrap (w.clock + longI (IntKind.i64.wrap (v.tries + 1))) = w.clock + longI (IntKind.i64.wrap (v.tries + 1)) := wrapI (by omega)
  have mk : ∀ (u : Live) (k n : Int), u.saga = v.saga → 0 ≤ u.tries → u.tries ≤ tb + 1 → 0 ≤ u.due → u.due ≤ 1073741832 → ¬ k = 1 → kindB k n = true → fitsB v.saga ⟨k, v.saga.id, n, ⟨#[]⟩, ⟨#[]⟩, []⟩ = true →
      LInv { u with write := ⟨k, v.saga.id, n, ⟨#[]⟩, ⟨#[]⟩, []⟩ } (tb + 1) := fun u k n e b0 b1 b2 b3 hk hn hf => by
    obtain ⟨r1, r2⟩ := rec_fits hid hst hk hn hf
    refine ⟨b0, b1, b2, b3, .inr ⟨hk, r1, ?_⟩⟩
    show ((_ : Int) == u.saga.id && (u.saga.status == 0 && fitsB u.saga _)) = true
    rw [e]
    exact r2
  unfold answeredL
  simp only
  by_cases ha : a = 2
  · rw [if_pos ha]
    by_cases hr : (v.saga.back || decide (IntKind.i64.wrap (v.tries + 1) < 4)) = true
    · rw [if_pos hr]
      refine ⟨?_, rfl⟩
      simp only [Bool.false_eq_true, if_false]
      exact ⟨by show 0 ≤ IntKind.i64.wrap (v.tries + 1); omega, by show IntKind.i64.wrap (v.tries + 1) ≤ _; omega, by show 0 ≤ IntKind.i64.wrap (w.clock + longI (IntKind.i64.wrap (v.tries + 1))); omega, by show IntKind.i64.wrap (w.clock + longI (IntKind.i64.wrap (v.tries + 1))) ≤ _; omega, .inl ⟨hw, hput⟩⟩
    · rw [if_neg hr]
      simp only [Bool.or_eq_true, not_or, Bool.not_eq_true, decide_eq_true_eq] at hr
      refine ⟨?_, rfl⟩
      simp only [if_true]
      have hout : v.saga.out = true := by rw [hr.1] at h3; simpa using h3
      exact mk { v with tries := IntKind.i64.wrap (v.tries + 1) } 4 0 rfl (by show 0 ≤ IntKind.i64.wrap (v.tries + 1); omega) (by show IntKind.i64.wrap (v.tries + 1) ≤ _; omega) d0 d1 (by decide) rfl (by
        unfold fitsB; rw [if_neg (by simp), if_neg (by simp), if_pos (by rfl), hr.1, hout]; rfl)
  rw [if_neg ha]
  by_cases hb : a = 1 ∧ v.saga.back = false
  · rw [if_pos hb]
    refine ⟨?_, rfl⟩
    simp only [if_true]
    have hout : v.saga.out = true := by rw [hb.2] at h3; simpa using h3
    exact mk v 4 0 rfl t0 (by omega) d0 d1 (by decide) rfl (by
      unfold fitsB; rw [if_neg (by simp), if_neg (by simp), if_pos (by rfl), hb.2, hout]; rfl)
  rw [if_neg hb]
  by_cases hb1 : a = 1
  · rw [if_pos hb1]
    refine ⟨?_, rfl⟩
    simp only [if_true]
    have hbk : v.saga.back = true := by
      cases h : v.saga.back with
      | true => rfl
      | false => exact absurd ⟨hb1, h⟩ hb
    rw [hbk] at h2
    have hlf : ¬ v.saga.left = 0 := by simpa using h2
    exact mk v 6 3 rfl t0 (by omega) d0 d1 (by decide) rfl (by
      unfold fitsB; rw [if_neg (by simp), if_neg (by simp), if_neg (by simp), if_neg (by simp), if_pos (by rfl)]
      show endsB v.saga 3 = true
      unfold endsB; rw [if_neg (by decide), if_neg (by decide), if_neg (by decide), if_pos rfl, hbk]; simp; omega)
  rw [if_neg hb1]
  cases hbk : v.saga.back with
  | true =>
    rw [if_pos rfl]
    refine ⟨?_, rfl⟩
    simp only [if_true]
    rw [stepI, hbk, if_pos rfl] at hat
    exact mk v 5 (IntKind.i64.wrap (v.saga.left - 1)) rfl t0 (by omega) d0 d1 (by decide) (by rw [hat]; unfold kindB; rw [if_pos (by simp)]; simp; omega) (by
      unfold fitsB; rw [if_neg (by simp), if_neg (by simp), if_neg (by simp), if_pos (by rfl), hbk]; simp)
  | false =>
    simp only [Bool.false_eq_true, if_false, if_true, and_true]
    have hout : v.saga.out = true := by rw [hbk] at h3; simpa using h3
    rw [stepI, hbk, if_neg (by decide)] at hat
    exact mk v 3 v.saga.done rfl t0 (by omega) d0 d1 (by decide) (by rw [hat]; unfold kindB; rw [if_pos (by simp)]; simp; omega) (by
      unfold fitsB; rw [if_neg (by simp), if_pos (by rfl), hbk, hout]; simp)
end Go.Rx

/- A step keeps a world such as it may be: the whole. -/
set_option linter.unusedVariables false
set_option linter.unusedSimpArgs false
namespace Go.Rx
theorem WInv.put {w : Wd} {tb : Int} (h : WInv w tb) {W : Wd} {i : Nat} {x : Live} (hc : W.clock = w.clock) (ho : W.outs = w.outs) (hk0 : 0 ≤ W.taken) (hk1 : W.taken ≤ tb + 1) (hf : fileB W.file = true) (hg : ledgersB W.ledgers = true) (hx : LInv x (tb + 1)) (hs : togB (sagasL (w.lives.set i x)) = true) :
    WInv { W with lives := w.lives.set i x } (tb + 1) := by
  refine ⟨by show 0 ≤ W.clock; rw [hc]; exact h.c0, by show W.clock ≤ _; rw [hc]; exact h.c1, hk0, hk1, by show W.outs.length ≤ 400; rw [ho]; exact h.ol, by show W.outs.any outBad = false; rw [ho]; exact h.ob, hf, hg, hs, fun v hv => ?_⟩
  rcases mem_set_cases hv with e | e
  · rw [e]; exact hx
  · exact (h.lives v e).mono (by omega)
theorem set_tog {l : List Live} {i : Nat} {v x : Live} (h : l[i]? = some v) (hx : x.saga = v.saga) (ht : togB (sagasL l) = true) : togB (sagasL (l.set i x)) = true := by rw [set_saga h hx]; exact ht
theorem keys_at {id : Int} {i : Nat} (hid : 1 ≤ id ∧ id ≤ 20) (hi : i < 5) : callKey id i = id * 100 + 2 * i ∧ undoKey id i = id * 100 + 2 * i + 1 := by
  have e : callKey id i = id * 100 + 2 * i := by
    rw [callKey, wrapI (n := id * 100) (by omega), wrapI (n := 2 * (i : Int)) (by omega), wrapI (by omega)]
  exact ⟨e, by rw [undoKey, e, wrapI (by omega)]⟩
/-- The ledger that is called, and what the call is. -/
structure CallAt (w : Wd) (s : Saga) (i : Nat) (g : Ledger) (st : Step) : Prop where
  row : s.steps[i]? = some st
  stAt : stepAt s = st
  sv : 1 ≤ st.service ∧ st.service ≤ 4
  led : w.ledgers[(st.service - 1).toNat]? = some g
  gAt : ledgAt w s = g
  gsv : g.service = st.service
  may : ledgerB g = true
  key : keyB (entryW s).key = true
  deed : deedB g.service (entryW s).op (entryW s).who (entryW s).n = true
theorem WInv.callAt {w : Wd} {tb : Int} (h : WInv w tb) {s : Saga} (hs : sagaB s = true) {i : Nat} (hi : StepIn s i) : ∃ g st, CallAt w s i g st := by
  have hg := ledgersB_iff.1 h.ledgers
  have hp := parts_iff.1 hs
  have hl := parts_len hp
  have hlt := hi.lt
  have hat := hi.at'
  have hst : stepAt s = s.steps[i] := by
    rw [stepAt, hat]
    simp [hlt]
  have hpr := step_pair hs hlt
  have hsv := sv_of hpr.1.1
  have hk := keys_at ⟨hl.2.2.1, hl.2.2.2⟩ hi.i5
  have hgl : (s.steps[i].service - 1).toNat < w.ledgers.length := by have := hg.len; omega
  have hga := hg.at' _ _ (List.getElem?_eq_getElem hgl)
  refine ⟨w.ledgers[(s.steps[i].service - 1).toNat], s.steps[i], List.getElem?_eq_getElem hlt, hst, hsv, List.getElem?_eq_getElem hgl, by rw [ledgAt, hst, List.getElem?_eq_getElem hgl]; rfl, by rw [hga.1]; omega, hga.2, ?_, ?_⟩
  · rw [entryW, hat]
    split
    · show keyB (undoKey s.id i) = true
      rw [hk.2, keyB]; simp; omega
    · show keyB (callKey s.id i) = true
      rw [hk.1, keyB]; simp; omega
  · have hsg : (w.ledgers[(s.steps[i].service - 1).toNat]).service = s.steps[i].service := by rw [hga.1]; omega
    rw [hsg, entryW, hst]
    split
    · show deedB s.steps[i].service s.steps[i].undo s.steps[i].who s.steps[i].n = true
      rw [deedB, hpr.1.2.1, hpr.2.1]; simp [hpr.2.2]
    · show deedB s.steps[i].service s.steps[i].op s.steps[i].who s.steps[i].n = true
      rw [deedB, hpr.1.1, hpr.2.1]; simp [hpr.2.2]
theorem WInv.calledL {w : Wd} {tb : Int} (h : WInv w tb) {s : Saga} (hs : sagaB s = true) {i : Nat} (hi : StepIn s i) (he : (doneAt w s).2.2 = 0) : ledgersB (calledW w s).ledgers = true := by
  obtain ⟨g, st, hc⟩ := h.callAt hs hi
  have hg := ledgersB_iff.1 h.ledgers
  rw [doneAt, hc.gAt] at he
  have hd := do_may hc.may hc.key hc.deed he
  refine ledgersB_iff.2 ⟨by show (w.ledgers.set _ _).length = 4; rw [List.length_set]; exact hg.len, fun j x hx => ?_⟩
  have hx' : (w.ledgers.set ((stepAt s).service - 1).toNat (doneAt w s).1)[j]? = some x := hx
  rw [hc.stAt, doneAt, hc.gAt] at hx'
  by_cases e : j = (st.service - 1).toNat
  · subst e
    have hl : (st.service - 1).toNat < w.ledgers.length := (List.getElem?_eq_some_iff.1 hc.led).1
    rw [List.getElem?_set_self hl] at hx'
    cases hx'
    exact ⟨by rw [hd.2, hc.gsv]; have := hc.sv; omega, hd.1⟩
  · rw [List.getElem?_set_ne (Ne.symm e)] at hx'
    exact hg.at' j x hx'
theorem WInv.next {w : Wd} {tb : Int} (h : WInv w tb) (ht : tb ≤ 4611686018427387902) {v : Live} {i : Nat} (hi : w.lives[i]? = some v) (hst : v.saga.status = 0) (hk : v.write.kind = 0) (he : (nextW w v).2.2 = 0) :
    WInv { (nextW w v).1 with lives := w.lives.set i (nextW w v).2.1 } (tb + 1) := by
  have hmem : v ∈ w.lives := List.mem_of_getElem? hi
  have hl := h.lives v hmem
  have hs := h.saga hmem
  have hw := hl.zero.1 hk
  have hp := parts_iff.1 hs
  have hl4 := parts_len hp
  have hid : 1 ≤ v.saga.id ∧ v.saga.id ≤ 20 := ⟨hl4.2.2.1, hl4.2.2.2⟩
  have p0 := hp.d0
  have p1 := hp.d1
  have p4 := hp.ou
  have k1 := h.k1
  have k0 := h.k0
  have hput : v.put = false := by
    rcases hl.wr with h | h
    · exact h.2
    · rw [hw] at h; exact absurd (rec_kind h.2.1) (by show ¬ (1 ≤ (0 : Int) ∧ _); omega)
  have wr : ∀ (k n : Int), ¬ k = 1 → kindB k n = true → fitsB v.saga ⟨k, v.saga.id, n, ⟨#[]⟩, ⟨#[]⟩, []⟩ = true → WInv { w with lives := w.lives.set i { v with write := ⟨k, v.saga.id, n, ⟨#[]⟩, ⟨#[]⟩, []⟩ } } (tb + 1) := fun k n a1 a2 a3 => by
    obtain ⟨r1, r2⟩ := rec_fits hid hst a1 a2 a3
    refine h.put rfl rfl k0 (by omega) h.file h.ledgers ⟨hl.t0, by have := hl.t1; show v.tries ≤ _; omega, hl.d0, hl.d1, .inr ⟨a1, r1, r2⟩⟩ ?_
    exact set_tog hi rfl h.tog
  cases h1 : (!v.saga.back && (v.saga.done == (v.saga.steps.length : Int))) with
  | true =>
    have e : nextW w v = (w, { v with write := { zRec with kind := 6, id := v.saga.id, n := 1 } }, 0) := by rw [nextW]; simp only; rw [if_pos h1]
    rw [e]
    simp only [Bool.and_eq_true, Bool.not_eq_true', beq_iff_eq] at h1
    refine wr 6 1 (by decide) rfl ?_
    have ho : v.saga.out = false := by
      cases ho : v.saga.out with
      | false => rfl
      | true => exact absurd h1.2 (p4 ho)
    unfold fitsB; rw [if_neg (by simp), if_neg (by simp), if_neg (by simp), if_neg (by simp), if_pos (by rfl)]
    show endsB v.saga 1 = true
    unfold endsB; rw [if_neg (by decide), if_pos rfl, h1.1, ho, h1.2]; simp
  | false =>
  cases h2 : (v.saga.back && (v.saga.left == 0)) with
  | true =>
    have e : nextW w v = (w, { v with write := { zRec with kind := 6, id := v.saga.id, n := 2 } }, 0) := by rw [nextW]; simp only; rw [if_neg (by rw [h1]; decide), if_pos h2]
    rw [e]
    refine wr 6 2 (by decide) rfl ?_
    unfold fitsB; rw [if_neg (by simp), if_neg (by simp), if_neg (by simp), if_neg (by simp), if_pos (by rfl)]
    show endsB v.saga 2 = true
    unfold endsB; rw [if_neg (by decide), if_neg (by decide), if_pos rfl]; exact h2
  | false =>
  cases h3 : (!v.saga.back && !v.saga.out) with
  | true =>
    have e : nextW w v = (w, { v with write := { zRec with kind := 2, id := v.saga.id, n := v.saga.done } }, 0) := by rw [nextW]; simp only; rw [if_neg (by rw [h1]; decide), if_neg (by rw [h2]; decide), if_pos h3]
    rw [e]
    simp only [Bool.and_eq_true, Bool.not_eq_true'] at h3
    rw [h3.1] at h1
    have hne : ¬ v.saga.done = v.saga.steps.length := by simpa using h1
    refine wr 2 v.saga.done (by decide) (by unfold kindB; rw [if_pos (by simp)]; simp; omega) ?_
    unfold fitsB; rw [if_pos (by rfl), h3.1, h3.2]; simp; omega
  | false =>
  have hd : (doneAt w v.saga).2.2 = 0 := by
    rw [nextW] at he
    simp only at he
    rw [if_neg (by rw [h1]; decide), if_neg (by rw [h2]; decide), if_neg (by rw [h3]; decide)] at he
    split at he
    · assumption
    · exact he
  have e : nextW w v = (calledW w v.saga, (if (answeredL w.clock v (doneAt w v.saga).2.1).2.2 then { (answeredL w.clock v (doneAt w v.saga).2.1).1 with write := (answeredL w.clock v (doneAt w v.saga).2.1).2.1 } else (answeredL w.clock v (doneAt w v.saga).2.1).1), 0) := by
    rw [nextW]; simp only; rw [if_neg (by rw [h1]; decide), if_neg (by rw [h2]; decide), if_neg (by rw [h3]; decide), if_pos hd]
  rw [e]
  obtain ⟨j, hj⟩ := call_at hs hst h1 h2 h3
  obtain ⟨ha, hsg⟩ := answered_inv (w := w) hs hl ht hst hw hj h1 h2 h3 ⟨h.c0, h.c1⟩ (doneAt w v.saga).2.1
  have hwt : IntKind.i64.wrap (w.taken + 1) = w.taken + 1 := wrapI (by omega)
  refine h.put (W := calledW w v.saga) rfl rfl (by show 0 ≤ IntKind.i64.wrap (w.taken + 1); omega) (by show IntKind.i64.wrap (w.taken + 1) ≤ _; omega) h.file (h.calledL hs hj hd) ha ?_
  exact set_tog hi (by split <;> exact hsg) h.tog
theorem WInv.written {w : Wd} {tb : Int} (h : WInv w tb) {v : Live} {i : Nat} (hi : w.lives[i]? = some v) (hk : ¬ v.write.kind = 0) (he : (writtenW w v).2.2 = 0) :
    WInv { (writtenW w v).1 with lives := w.lives.set i (writtenW w v).2.1 } (tb + 1) := by
  have hmem : v ∈ w.lives := List.mem_of_getElem? hi
  have hl := h.lives v hmem
  have hs := h.saga hmem
  have k1 := h.k1
  have k0 := h.k0
  have t0 := hl.t0
  have t1 := hl.t1
  have hr : ¬ v.write.kind = 1 ∧ recB v.write = true ∧ fitsL v = true := by
    rcases hl.wr with e | e
    · exact absurd (hl.zero.2 e.1) hk
    · exact e
  have hf := hr.2.2
  simp only [fitsL, Bool.and_eq_true, beq_iff_eq] at hf
  cases hp : v.put with
  | true =>
    have e : writtenW w v = ({ w with file := (crashP w.file w.file.tail.size).1 }, ⟨nextS v.saga v.write, 0, w.clock, zRec, false⟩, 0) := by rw [writtenW, if_pos hp]
    rw [e]
    have hg := apply_goes hs hr.2.1 hf.1 hf.2.1 hf.2.2
    have hgd := apply_good hs hg
    have hnx := (apply_went hs hg).2.2.2.2
    refine h.put (W := { w with file := (crashP w.file w.file.tail.size).1 }) rfl rfl k0 (by show w.taken ≤ _; omega) (sync_may h.file) h.ledgers ⟨Int.le_refl 0, by show (0 : Int) ≤ _; omega, h.c0, by show w.clock ≤ _; have := h.c1; omega, .inl ⟨rfl, rfl⟩⟩ ?_
    rw [sagas_set]
    exact tog_set h.tog (sagas_at hi) (by rw [← hnx]; exact hgd.may) (next_id _ _) (next_keep _ _).1
  | false =>
    have hd : (jappP w.file v.write).2 = 0 := by
      rw [writtenW, if_neg (by rw [hp]; decide)] at he
      split at he
      · assumption
      · exact he
    have e : writtenW w v = ({ w with file := (jappP w.file v.write).1 }, { v with put := true }, 0) := by rw [writtenW, if_neg (by rw [hp]; decide), if_pos hd]
    rw [e]
    refine h.put (W := { w with file := (jappP w.file v.write).1 }) rfl rfl k0 (by show w.taken ≤ _; omega) (app_file hd) h.ledgers ⟨t0, by show v.tries ≤ _; omega, hl.d0, hl.d1, .inr hr⟩ ?_
    exact set_tog hi rfl h.tog
theorem stepW_at {w : Wd} {i : Nat} {v : Live} (h : dueI w = some i) (hv : w.lives[i]? = some v) : stepW w = if (moveW w v).2.2 = 0 then ({ (moveW w v).1 with lives := w.lives.set i (moveW w v).2.1 }, 0) else (w, (moveW w v).2.2) := by
  rw [stepW, h]
  simp only
  rw [hv]
theorem dueB_st {c : Int} {v : Live} (h : dueB c v = true) : v.saga.status = 0 := by rw [dueB, Bool.and_eq_true] at h; exact eq_of_beq h.1
theorem WInv.step {w : Wd} {tb : Int} (h : WInv w tb) (ht : tb ≤ 4611686018427387902) (he : (stepW w).2 = 0) : WInv (stepW w).1 (tb + 1) := by
  cases hd : dueI w with
  | none => rw [stepW, hd] at he; cases he
  | some i =>
    obtain ⟨v, hv, hb⟩ := dueI_some hd
    rw [stepW_at hd hv] at he ⊢
    have hm : (moveW w v).2.2 = 0 := by
      split at he
      · assumption
      · exact he
    rw [if_pos hm]
    by_cases hk : v.write.kind = 0
    · have e : moveW w v = nextW w v := by rw [moveW, if_neg (by rw [hk]; decide)]
      rw [e] at hm ⊢
      exact h.next ht hv (dueB_st hb) hk hm
    · have e : moveW w v = writtenW w v := by rw [moveW, if_pos (by simpa using hk)]
      rw [e] at hm ⊢
      exact h.written hv hk hm
/-- No step on the way fails. -/
def okGo : Nat → Wd → Bool
  | 0, _ => true
  | k + 1, w => (dueI w).isNone || ((stepW w).2 == 0 && okGo k (stepW w).1)
theorem WInv.stepOk {w : Wd} {tb : Int} (h : WInv w tb) (ht : tb ≤ 4611686018427387902) (he : (stepW w).2 = 0 ∨ dueI w = none) : StepOk w :=
  ⟨h.wok.ll, fun v hv hd => h.move (by omega) hv hd, he⟩
theorem WInv.goOk : ∀ {k : Nat} {w : Wd} {tb : Int}, WInv w tb → tb + k ≤ 4611686018427387902 → okGo k w = true → GoOk k w
  | 0, w, tb, _, _, _ => trivial
  | k + 1, w, tb, h, ht, he => by
    rw [okGo, Bool.or_eq_true, Bool.and_eq_true, Option.isNone_iff_eq_none, beq_iff_eq] at he
    refine ⟨h.stepOk (by omega) (by rcases he with e | e; exact .inr e; exact .inl e.1), fun e0 => ?_⟩
    rcases he with e | e
    · rw [stepW, e] at e0; cases e0
    · exact WInv.goOk (h.step (by omega) e0) (by omega) e.2
theorem WInv.goEnd : ∀ {k : Nat} {w : Wd} {tb : Int}, WInv w tb → tb + k ≤ 4611686018427387902 → WInv (goW k w).1 (tb + k)
  | 0, w, tb, h, _ => h.mono (by omega)
  | k + 1, w, tb, h, ht => by
    rw [goW]
    split
    · rename_i e0
      exact (WInv.goEnd (h.step (by omega) e0) (by omega)).mono (by omega)
    · exact h.mono (by omega)
theorem WInv.clock {w : Wd} {tb : Int} (h : WInv w tb) (hc : w.clock < 1073741824) : WInv { w with clock := IntKind.i64.wrap (w.clock + 1) } tb := by
  have h0 := h.c0
  have e : IntKind.i64.wrap (w.clock + 1) = w.clock + 1 := wrapI (by omega)
  exact ⟨by show 0 ≤ IntKind.i64.wrap (w.clock + 1); omega, by show IntKind.i64.wrap (w.clock + 1) ≤ _; omega, h.k0, h.k1, h.ol, h.ob, h.file, h.ledgers, h.tog, h.lives⟩
end Go.Rx

/- Worlds with a saga that are made, ticks, and counts. -/
set_option linter.unusedVariables false
set_option linter.unusedSimpArgs false
namespace Go.Rx
def cntE : List Entry → Int × Int → Int × Int
  | [], p => p
  | e :: l, p => cntE l (if e.back then (p.1, IntKind.i64.wrap (p.2 + 1)) else (IntKind.i64.wrap (p.1 + 1), p.2))
def cntL : List Ledger → Int × Int → Int × Int
  | [], p => p
  | g :: l, p => cntL l (cntE g.entries p)
def countsW (w : Wd) : Int × Int := cntL w.ledgers (0, 0)
theorem cntE_go {l : List Entry} {k : Nat} {p : Int × Int} (h : k < l.length) : cntE (l.drop k) p = cntE (l.drop (k + 1)) (if l[k].back then (p.1, IntKind.i64.wrap (p.2 + 1)) else (IntKind.i64.wrap (p.1 + 1), p.2)) := by rw [List.drop_eq_getElem_cons h, cntE]
theorem cntE_end {l : List Entry} {k : Nat} {p : Int × Int} (h : l.length ≤ k) : cntE (l.drop k) p = p := by rw [List.drop_of_length_le h, cntE]
theorem cntL_go {l : List Ledger} {k : Nat} {p : Int × Int} (h : k < l.length) : cntL (l.drop k) p = cntL (l.drop (k + 1)) (cntE l[k].entries p) := by rw [List.drop_eq_getElem_cons h, cntL]
theorem cntL_end {l : List Ledger} {k : Nat} {p : Int × Int} (h : l.length ≤ k) : cntL (l.drop k) p = p := by rw [List.drop_of_length_le h, cntL]
abbrev wdB (p : Wd × Bool) : AV := .tup [.agg p.1.lfs, .lf (.pv (pB p.2))]
theorem finWBo {w : Wd} {b : Bool} {q : Wd × Bool} (h : Fin (w, b) q) : ∃ zs, Fa WkA [.agg w.lfs, Bl b] zs ∧ pack zs = some (wdB q) := ⟨_, wk_refl _, by rw [← h.out]; rfl⟩
def tickOk (w : Wd) : Bool := (tickWd w).2 == 0 && (worldB (tickWd w).1 && ((tickWd w).1.lives.length == w.lives.length))
def ticksW : Nat → Wd → Wd × Bool
  | 0, w => (w, true)
  | k + 1, w => if tickOk w then ticksW k (tickWd w).1 else (w, false)
/-- Ticks may be made: no step on the way fails. -/
structure TickIn (w : Wd) : Prop where
  ok : w.Ok
  go : worldB w = true → w.clock < 1073741824 → GoOk 2000 { w with clock := IntKind.i64.wrap (w.clock + 1) }
  out : (tickWd w).2 = 0 → (tickWd w).1.Ok
def TicksIn : Nat → Wd → Prop
  | 0, _ => True
  | k + 1, w => TickIn w ∧ (tickOk w = true → TicksIn k (tickWd w).1)
def opA (i : Nat) : ByteArray := if i % 4 = 0 then ⟨#[99, 114, 101, 100, 105, 116]⟩ else if i % 4 = 1 then ⟨#[116, 97, 107, 101]⟩ else if i % 4 = 2 then ⟨#[98, 111, 111, 107]⟩ else ⟨#[114, 101, 99, 97, 108, 108]⟩
def opB (i : Nat) : ByteArray := if i % 4 = 0 then ⟨#[100, 101, 98, 105, 116]⟩ else if i % 4 = 1 then ⟨#[112, 117, 116]⟩ else if i % 4 = 2 then ⟨#[99, 97, 110, 99, 101, 108]⟩ else ⟨#[115, 101, 110, 100]⟩
def madeStep (i : Nat) : Step := ⟨bytesOf [byteZ (IntKind.i64.wrap (97 + (i : Int)))], IntKind.i64.wrap (1 + (i : Int) % 4), opA i, opB i, ⟨#[119]⟩, IntKind.i64.wrap (1 + (i : Int))⟩
def madeR (n : Nat) : Rec := ⟨1, 1, 0, ⟨#[107]⟩, ⟨#[98]⟩, (List.range n).map madeStep⟩
def madeX (n : Nat) (outs : List Int) : Wd × Int := beginWd (newWd 9000 outs).1 (madeR n)
def madeW (n : Nat) (outs : List Int) : Wd × Bool := ((madeX n outs).1, (newWd 9000 outs).2 == 0 && ((madeX n outs).2 == 0 && (worldB (madeX n outs).1 && ((madeX n outs).1.lives.length == 1))))
theorem opA_size (i : Nat) : (opA i).size ≤ 6 := by
  unfold opA; repeat' split
  all_goals decide
theorem opB_size (i : Nat) : (opB i).size ≤ 6 := by
  unfold opB; repeat' split
  all_goals decide
theorem madeR_ok (n : Nat) (hn : n ≤ 100) : (madeR n).Ok := ⟨by show (1 : Nat) ≤ _; omega, by show (1 : Nat) ≤ _; omega, by show ((List.range n).map madeStep).length * 80 ≤ _; rw [List.length_map, List.length_range]; omega, fun x hx => by
  obtain ⟨i, _, rfl⟩ := List.mem_map.1 (show x ∈ (List.range n).map madeStep from hx)
  exact ⟨by show (1 : Nat) ≤ _; omega, by show (opA i).size ≤ _; have := opA_size i; omega, by show (opB i).size ≤ _; have := opB_size i; omega, by show (1 : Nat) ≤ _; omega⟩⟩
theorem zWd_ok : zWd.Ok := ⟨⟨by show (0 : Nat) ≤ _; omega, by show (0 : Nat) ≤ _; omega⟩, by show (0 : Nat) ≤ _; omega, by show (0 : Nat) ≤ _; omega, by show (0 : Nat) ≤ _; omega, fun g hg => (by cases hg), fun v hv => (by cases hv)⟩
theorem newWd_ok (size : Int) (outs : List Int) : (newWd size outs).1.Ok := by
  unfold newWd
  split
  · split
    · rename_i h
      exact (worldB_iff.1 h).wok
    · exact zWd_ok
  · exact zWd_ok
abbrev madeB (p : Wd) (i n : Nat) : List Blk := [.var zWdV, .var p.lfs, .var [.pv (pI 1), .pv (pI 1), .pv (pI 0), .pv (pS ⟨#[107]⟩), .pv (pS ⟨#[98]⟩), .own 3 ((List.range i).map madeStep).length], .arr n 6 (((List.range i).map madeStep).map Step.enc)]
theorem madeB_eq {i : Nat} {st : List PV} {ty : Nat} (h : st = (madeStep i).enc) (x y z u a b : Blk) :
    [a, b, Blk.var [.pv (pI 1), .pv (pI 1), .pv (pI 0), .pv (pS ⟨#[107]⟩), .pv (pS ⟨#[98]⟩), .own 3 (((List.range i).map madeStep).length + 1)], .arr ty 6 (((List.range i).map madeStep).map Step.enc ++ [st]), x, y, z, u] =
      [a, b, .var [.pv (pI 1), .pv (pI 1), .pv (pI 0), .pv (pS ⟨#[107]⟩), .pv (pS ⟨#[98]⟩), .own 3 ((List.range (i + 1)).map madeStep).length], .arr ty 6 (((List.range (i + 1)).map madeStep).map Step.enc)] ++ [x, y, z, u] := by
  rw [h, List.range_succ, List.map_append, List.map_append, List.length_append]
  rfl
end Go.Rx
namespace Go.Proofs.YtfjllfjmggooeaaGreatDoor.Rx
open Go.Rx Go.Proofs Go.Proofs.YtfjllfjmggooeaaGreatDoor.RxH
theorem num16_con (n : Int) : Con P 20 [Go.Rx.I n] (Go.Rx.I n) [] := by
  refine Con.of T_ok Tryz.func20 rfl (by kernel_rfl) (by kernel_rfl) (aw_of T_ok (by kernel_rfl) ?_)
  conv => whnf
  exact finI ⟨rfl⟩
theorem counts_con (w : Wd) (hw : w.Ok) : Con P 26 [encWd w] (pairI (countsW w)) [] := by
  have hgm : (w.ledgers.map Ledger.enc).length = w.ledgers.length := List.length_map ..
  have hgl := hw.gl
  obtain ⟨q, hq⟩ : ∃ q, q = countsW w := ⟨_, rfl⟩
  rw [← hq]
  rw [countsW] at hq
  refine Con.of T_ok Tryz.func26 rfl (by kernel_rfl) (by kernel_rfl) (aw_of T_ok (by kernel_rfl) ?_)
  conv => whnf
  refine AW.loop (fun p : Nat × Int × Int => p.1 ≤ w.ledgers.length ∧ q = cntL (w.ledgers.drop p.1) p.2) (fun p => [(1, .lf (.ptr 0 0)), (4, Go.Rx.I p.2.1), (5, Go.Rx.I p.2.2), (6, Go.Rx.I p.1)]) (fun _ => [.var w.lfs]) (fun p => w.ledgers.length - p.1) [] ?_ ?_
  · exact ⟨(0, 0, 0), ⟨Nat.zero_le _, hq⟩, ⟨rfl, rfl, rfl, rfl, trivial⟩, ⟨[], rfl⟩, rfl, rfl⟩
  rintro ⟨k, a, b⟩ ⟨hk, hpre⟩
  simp only at hk hpre
  refine aw_of T_ok (by kernel_rfl) ?_
  conv => whnf
  split <;> rename_i hlt <;> conv => whnf
  · have hkl : k < w.ledgers.length := by have : (k : Int) < ((w.ledgers.map Ledger.enc).length : Int) := of_decide_eq_true hlt
                                          omega
    have hrow : (w.ledgers.map Ledger.enc)[k]? = some w.ledgers[k].enc := by simp [hkl]
    have hok := hw.ledgers w.ledgers[k] (List.getElem_mem hkl)
    rw [cntL_go hkl] at hpre
    generalize w.ledgers[k] = g at hrow hok hpre
    have hel := hok.el
    have hem : (g.entries.map Entry.enc).length = g.entries.length := List.length_map ..
    refine AW.loop (fun p : Nat × Int × Int => p.1 ≤ g.entries.length ∧ q = cntL (w.ledgers.drop (k + 1)) (cntE (g.entries.drop p.1) p.2)) (fun p => [(1, .lf (.ptr 0 0)), (4, Go.Rx.I p.2.1), (5, Go.Rx.I p.2.2), (6, Go.Rx.I k), (7, Go.Rx.I p.1)]) (fun _ => [.var w.lfs]) (fun p => g.entries.length - p.1) [] ?_ ?_
    · exact ⟨(0, a, b), ⟨Nat.zero_le _, hpre⟩, ⟨rfl, rfl, rfl, rfl, rfl, trivial⟩, ⟨[], rfl⟩, rfl, rfl⟩
    rintro ⟨j, c, d⟩ ⟨hj, hpre⟩
    simp only at hj hpre
    refine aw_of T_ok (by kernel_rfl) ?_
    conv => whnf
    refine ⟨by omega, _, hrow, ?_⟩
    conv => whnf
    split <;> rename_i hlt2 <;> conv => whnf
    · have hjl : j < g.entries.length := by have : (j : Int) < ((g.entries.map Entry.enc).length : Int) := of_decide_eq_true hlt2
                                            omega
      have hrow2 : (g.entries.map Entry.enc)[j]? = some g.entries[j].enc := by simp [hjl]
      rw [cntE_go hjl] at hpre
      generalize g.entries[j] = e at hrow2 hpre
      have wj : IntKind.i64.wrap ((j : Int) + 1) = ((j + 1 : Nat) : Int) := wrapI (by omega)
      refine ⟨by omega, _, hrow, ?_⟩
      conv => whnf
      refine ⟨by omega, _, hrow2, ?_⟩
      conv => whnf
      split <;> rename_i hb <;> conv => whnf
      · rw [if_pos hb] at hpre
        exact ⟨(j + 1, c, _), ⟨⟨hjl, hpre⟩, by show g.entries.length - (j + 1) < g.entries.length - j; omega⟩, ⟨rfl, rfl, rfl, rfl, congrArg Go.Rx.I wj, trivial⟩, ⟨[], rfl⟩, rfl, rfl⟩
      · rw [if_neg (by rw [show e.back = false from hb]; decide)] at hpre
        exact ⟨(j + 1, _, d), ⟨⟨hjl, hpre⟩, by show g.entries.length - (j + 1) < g.entries.length - j; omega⟩, ⟨rfl, rfl, rfl, rfl, congrArg Go.Rx.I wj, trivial⟩, ⟨[], rfl⟩, rfl, rfl⟩
    · have hjl : g.entries.length ≤ j := by have : ¬ (j : Int) < ((g.entries.map Entry.enc).length : Int) := of_decide_eq_false hlt2
                                            omega
      rw [cntE_end hjl] at hpre
      exact ⟨(k + 1, c, d), ⟨⟨hkl, hpre⟩, by show w.ledgers.length - (k + 1) < w.ledgers.length - k; omega⟩, ⟨rfl, rfl, rfl, congrArg Go.Rx.I (wrapI (by omega)), trivial⟩, ⟨[], rfl⟩, rfl, rfl⟩
  · have hkl : w.ledgers.length ≤ k := by have : ¬ (k : Int) < ((w.ledgers.map Ledger.enc).length : Int) := of_decide_eq_false hlt
                                          omega
    rw [cntL_end hkl] at hpre
    exact ⟨_, wk_refl _, by rw [hpre]; rfl⟩
theorem ticks_con (n : Nat) (w : Wd) (hn : n ≤ 100000) (h : TicksIn n w) : Con P 25 [encWd w, Go.Rx.I n] (wdB (ticksW n w)) [] := by
  obtain ⟨q, hq⟩ : ∃ q, q = ticksW n w := ⟨_, rfl⟩
  rw [← hq]
  refine Con.of T_ok Tryz.func25 rfl (by kernel_rfl) (by kernel_rfl) (aw_of T_ok (by kernel_rfl) ?_)
  conv => whnf
  refine AW.loop (fun p : Nat × Wd => p.1 ≤ n ∧ TicksIn (n - p.1) p.2 ∧ q = ticksW (n - p.1) p.2) (fun p => [(1, Go.Rx.I n), (2, .lf (.ptr 0 0)), (4, .lf (.ptr 1 0)), (6, Go.Rx.I p.1)]) (fun p => [.var p.2.lfs, .var zWdV]) (fun p => n - p.1) [] ?_ ?_
  · exact ⟨(0, w), ⟨Nat.zero_le _, h, hq⟩, ⟨rfl, rfl, rfl, rfl, trivial⟩, ⟨[], rfl⟩, rfl, rfl⟩
  rintro ⟨k, x⟩ ⟨hk, hin, hpre⟩
  simp only at hk hin hpre
  refine aw_of T_ok (by kernel_rfl) ?_
  conv => whnf
  split <;> rename_i hlt <;> conv => whnf
  · have hkl : k < n := by have := of_decide_eq_true hlt; omega
    have e : n - k = (n - (k + 1)) + 1 := by omega
    rw [e] at hin hpre
    obtain ⟨ht, hgo⟩ := hin
    have ct := tickWd_con x ht.ok ht.go
    have c16 := fun he => world16_con (tickWd x).1 (ht.out he)
    rw [ticksW] at hpre
    have hto : tickOk x = ((tickWd x).2 == 0 && (worldB (tickWd x).1 && ((tickWd x).1.lives.length == x.lives.length))) := rfl
    generalize tickWd x = y at ct c16 hpre hgo hto
    obtain ⟨y, er⟩ := y
    simp only at c16 hpre hto hgo
    generalize worldB y = wb at c16 hto
    refine callU ct (fun _ => rfl) ?_
    conv => whnf
    refine callS (num16_con er) rfl ?_
    conv => whnf
    split <;> rename_i h1 <;> conv => whnf
    · have h1' : (er == 0) = false := by have h2 : (er != 0) = true := h1; simpa using h2
      rw [h1'] at hto
      exact finWBo ⟨by rw [hpre, if_neg (by rw [hto]; simp)]⟩
    have h1' : (er == 0) = true := by have h2 : (er != 0) = false := h1; simpa using h2
    rw [h1', Bool.true_and] at hto
    refine callS (c16 (eq_of_beq h1')) rfl ?_
    conv => whnf
    cases wb with
    | false =>
      conv => whnf
      exact finWBo ⟨by rw [hpre, if_neg (by rw [hto]; simp)]⟩
    | true =>
    rw [Bool.true_and] at hto
    conv => whnf
    split <;> rename_i h3 <;> conv => whnf
    · have h3' : tickOk x = false := by
        have h4 : (((y.lives.map Live.enc).length : Int) != ((x.lives.map Live.enc).length : Int)) = true := h3
        rw [List.length_map, List.length_map] at h4
        rw [hto]; simp at h4 ⊢; omega
      exact finWBo ⟨by rw [hpre, if_neg (by rw [h3']; simp)]⟩
    · have h3' : tickOk x = true := by
        have h4 : (((y.lives.map Live.enc).length : Int) != ((x.lives.map Live.enc).length : Int)) = false := h3
        rw [List.length_map, List.length_map] at h4
        rw [hto]; simp at h4 ⊢; omega
      rw [if_pos h3'] at hpre
      exact ⟨(k + 1, y), ⟨⟨hkl, hgo h3', hpre⟩, by show n - (k + 1) < n - k; omega⟩, ⟨rfl, rfl, rfl, congrArg Go.Rx.I (wrapI (by omega)), trivial⟩, ⟨[_], rfl⟩, rfl, rfl⟩
  · have hkl : n ≤ k := by have := of_decide_eq_false hlt; omega
    have e : n - k = 0 := by omega
    rw [e, ticksW] at hpre
    exact finWBo ⟨hpre.symm⟩
theorem made_con (n : Nat) (hn : n ≤ 100) (outs : List Int) (ho : outs.length * 8 ≤ 140737488351232) (hx : (madeX n outs).1.Ok) : Con P 24 [Go.Rx.I n, .lf (.pv (encInts outs))] (wdB (madeW n outs)) [] := by
  have cn := newWd_con 9000 outs ho
  have cb := beginWd_con (newWd 9000 outs).1 (newWd_ok 9000 outs) (madeR n) (madeR_ok n hn)
  have cw := world16_con (madeX n outs).1 hx
  have hq : madeW n outs = ((madeX n outs).1, (newWd 9000 outs).2 == 0 && ((madeX n outs).2 == 0 && (worldB (madeX n outs).1 && ((madeX n outs).1.lives.length == 1)))) := rfl
  have hX : madeX n outs = beginWd (newWd 9000 outs).1 (madeR n) := rfl
  rw [← hX] at cb
  obtain ⟨q, he⟩ : ∃ q, q = madeW n outs := ⟨_, rfl⟩
  rw [← he] at hq ⊢
  clear hX hx
  generalize madeX n outs = x at cb cw hq
  generalize newWd 9000 outs = p at cn cb hq
  obtain ⟨p, e1⟩ := p
  obtain ⟨x, e2⟩ := x
  simp only at cb cw hq
  generalize worldB x = wb at cw hq
  refine Con.of T_ok Tryz.func24 rfl (by kernel_rfl) (by kernel_rfl) (aw_of T_ok (by kernel_rfl) ?_)
  conv => whnf
  refine callU cn (fun _ => rfl) ?_
  conv => whnf
  refine AW.loop (fun i : Nat => i ≤ n) (fun i => [(0, Go.Rx.I n), (4, .lf (.ptr 0 0)), (6, .lf (.ptr 1 0)), (7, Go.Rx.I e1), (8, .lf (.ptr 2 0)), (9, Go.Rx.I i)]) (fun i => madeB p i 99) (fun i => n - i) [.cell 2 5 99 6] ?_ ?_
  · exact ⟨rfl, 0, Nat.zero_le _, ⟨rfl, rfl, rfl, rfl, rfl, rfl, trivial⟩, ⟨[], rfl⟩, rfl, rfl⟩
  intro i hi
  have hTl : ((List.range i).map madeStep).length = i := by rw [List.length_map, List.length_range]
  have hTm : (((List.range i).map madeStep).map Step.enc).length = ((List.range i).map madeStep).length := List.length_map ..
  refine aw_of T_ok (by kernel_rfl) ?_
  conv => whnf
  split <;> rename_i hlt <;> conv => whnf
  · have hil : i < n := by have := of_decide_eq_true hlt; omega
    have wi : IntKind.i64.wrap ((i : Int) + 1) = ((i + 1 : Nat) : Int) := wrapI (by omega)
    have hm4 : 0 ≤ (i : Int) % 4 ∧ (i : Int) % 4 < ((4 : Nat) : Int) := by omega
    have h4 : i % 4 = 0 ∨ i % 4 = 1 ∨ i % 4 = 2 ∨ i % 4 = 3 := by omega
    have h4' : ((i : Int) % 4).toNat = i % 4 := by omega
    have hs1 : ([[pS ⟨#[99, 114, 101, 100, 105, 116]⟩], [pS ⟨#[116, 97, 107, 101]⟩], [pS ⟨#[98, 111, 111, 107]⟩], [pS ⟨#[114, 101, 99, 97, 108, 108]⟩]] : List (List PV))[((i : Int) % 4).toNat]? = some [pS (opA i)] := by
      rw [h4']; unfold opA
      rcases h4 with h | h | h | h <;> rw [h] <;> rfl
    have hs2 : ([[pS ⟨#[100, 101, 98, 105, 116]⟩], [pS ⟨#[112, 117, 116]⟩], [pS ⟨#[99, 97, 110, 99, 101, 108]⟩], [pS ⟨#[115, 101, 110, 100]⟩]] : List (List PV))[((i : Int) % 4).toNat]? = some [pS (opB i)] := by
      rw [h4']; unfold opB
      rcases h4 with h | h | h | h <;> rw [h] <;> rfl
    have hz : [[PV.sc (.int .u8 (IntKind.u8.wrap (IntKind.i64.wrap (97 + (i : Int)))))]] = byteRows (bytesOf [byteZ (IntKind.i64.wrap (97 + (i : Int)))]) := by rw [byteZ_wrap]; rfl
    have hsn : [pS (bytesOf [byteZ (IntKind.i64.wrap (97 + (i : Int)))]), pI (IntKind.i64.wrap (1 + (i : Int) % 4)), pS (opA i), pS (opB i), pS ⟨#[119]⟩, pI (IntKind.i64.wrap (1 + (i : Int)))] = (madeStep i).enc := rfl
    generalize opA i = s1 at hs1 hsn
    generalize opB i = s2 at hs2 hsn
    generalize bytesOf [byteZ (IntKind.i64.wrap (97 + (i : Int)))] = nm at hz hsn
    refine AW.draw T_ok rfl (.one 0 (.one 1 (.one 2 (.one 3 (.one 4 (.one 7 (.one 8 (.one 9 (.one 11 (.one 12 (.one 16 (.one 17 (.one 20 (.one 21 (.three 5 (.one 6 (.two 10 (listPl [13, 14, 15, 18, 19, 22, 23, 24, 25, 26]) 15 (listPl [18, 19, 10, 13, 14, 22, 23, 24, 25, 26])))
      10 (.one 13 (.one 14 (.two 5 (listPl [6, 15, 18, 19, 22, 23, 24, 25, 26]) 15 (listPl [18, 19, 5, 6, 22, 23, 24, 25, 26])))) 15 (.one 18 (.one 19 (.two 5 (listPl [6, 10, 13, 14, 22, 23, 24, 25, 26]) 10 (listPl [13, 14, 5, 6, 22, 23, 24, 25, 26]))))))))))))))))))) (by kernel_rfl) (by kernel_rfl) ?_
    conv => whnf
    refine .inl ⟨by omega, by decide, by omega, ?_⟩
    conv => whnf
    refine .inl ⟨by omega, by decide, by omega, ?_⟩
    conv => whnf
    refine .inl ⟨by omega, by decide, by omega, ?_⟩
    conv => whnf
    refine ⟨?_, ?_, ?_⟩ <;> conv => whnf
    · refine ⟨rfl, _, hz, ?_⟩
      conv => whnf
      refine ⟨?_, ?_⟩ <;> conv => whnf
      · refine ⟨rfl, hm4.1, hm4.2, ?_⟩
        conv => whnf
        refine ⟨rfl, rfl, _, hs1, ?_⟩
        conv => whnf
        refine ⟨rfl, hm4.1, hm4.2, ?_⟩
        conv => whnf
        refine ⟨rfl, rfl, _, hs2, ?_⟩
        conv => whnf
        refine ⟨rfl, _, .inl rfl, ?_⟩
        conv => whnf
        refine ⟨hTm, by show (((List.range i).map madeStep).length + 1) * 80 ≤ _; rw [hTl]; omega, ?_⟩
        conv => whnf
        refine ⟨i + 1, ⟨hil, by omega⟩, ⟨rfl, rfl, rfl, rfl, rfl, congrArg Go.Rx.I wi, trivial⟩, ⟨[?x1a, ?x1b, ?x1c, ?x1d], ?x1e⟩, rfl, rfl⟩
        case x1e => exact madeB_eq hsn _ _ _ _ _ _
      · refine ⟨rfl, hm4.1, hm4.2, ?_⟩
        conv => whnf
        refine ⟨rfl, rfl, _, hs2, ?_⟩
        conv => whnf
        refine ⟨rfl, hm4.1, hm4.2, ?_⟩
        conv => whnf
        refine ⟨rfl, rfl, _, hs1, ?_⟩
        conv => whnf
        refine ⟨rfl, _, .inl rfl, ?_⟩
        conv => whnf
        refine ⟨hTm, by show (((List.range i).map madeStep).length + 1) * 80 ≤ _; rw [hTl]; omega, ?_⟩
        conv => whnf
        refine ⟨i + 1, ⟨hil, by omega⟩, ⟨rfl, rfl, rfl, rfl, rfl, congrArg Go.Rx.I wi, trivial⟩, ⟨[?x2a, ?x2b, ?x2c, ?x2d], ?x2e⟩, rfl, rfl⟩
        case x2e => exact madeB_eq hsn _ _ _ _ _ _
    · refine ⟨rfl, hm4.1, hm4.2, ?_⟩
      conv => whnf
      refine ⟨rfl, rfl, _, hs1, ?_⟩
      conv => whnf
      refine ⟨?_, ?_⟩ <;> conv => whnf
      · refine ⟨rfl, _, hz, ?_⟩
        conv => whnf
        refine ⟨rfl, hm4.1, hm4.2, ?_⟩
        conv => whnf
        refine ⟨rfl, rfl, _, hs2, ?_⟩
        conv => whnf
        refine ⟨rfl, _, .inl rfl, ?_⟩
        conv => whnf
        refine ⟨hTm, by show (((List.range i).map madeStep).length + 1) * 80 ≤ _; rw [hTl]; omega, ?_⟩
        conv => whnf
        refine ⟨i + 1, ⟨hil, by omega⟩, ⟨rfl, rfl, rfl, rfl, rfl, congrArg Go.Rx.I wi, trivial⟩, ⟨[?x3a, ?x3b, ?x3c, ?x3d], ?x3e⟩, rfl, rfl⟩
        case x3e => exact madeB_eq hsn _ _ _ _ _ _
      · refine ⟨rfl, hm4.1, hm4.2, ?_⟩
        conv => whnf
        refine ⟨rfl, rfl, _, hs2, ?_⟩
        conv => whnf
        refine ⟨rfl, _, hz, ?_⟩
        conv => whnf
        refine ⟨rfl, _, .inl rfl, ?_⟩
        conv => whnf
        refine ⟨hTm, by show (((List.range i).map madeStep).length + 1) * 80 ≤ _; rw [hTl]; omega, ?_⟩
        conv => whnf
        refine ⟨i + 1, ⟨hil, by omega⟩, ⟨rfl, rfl, rfl, rfl, rfl, congrArg Go.Rx.I wi, trivial⟩, ⟨[?x4a, ?x4b, ?x4c, ?x4d], ?x4e⟩, rfl, rfl⟩
        case x4e => exact madeB_eq hsn _ _ _ _ _ _
    · refine ⟨rfl, hm4.1, hm4.2, ?_⟩
      conv => whnf
      refine ⟨rfl, rfl, _, hs2, ?_⟩
      conv => whnf
      refine ⟨?_, ?_⟩ <;> conv => whnf
      · refine ⟨rfl, _, hz, ?_⟩
        conv => whnf
        refine ⟨rfl, hm4.1, hm4.2, ?_⟩
        conv => whnf
        refine ⟨rfl, rfl, _, hs1, ?_⟩
        conv => whnf
        refine ⟨rfl, _, .inl rfl, ?_⟩
        conv => whnf
        refine ⟨hTm, by show (((List.range i).map madeStep).length + 1) * 80 ≤ _; rw [hTl]; omega, ?_⟩
        conv => whnf
        refine ⟨i + 1, ⟨hil, by omega⟩, ⟨rfl, rfl, rfl, rfl, rfl, congrArg Go.Rx.I wi, trivial⟩, ⟨[?x5a, ?x5b, ?x5c, ?x5d], ?x5e⟩, rfl, rfl⟩
        case x5e => exact madeB_eq hsn _ _ _ _ _ _
      · refine ⟨rfl, hm4.1, hm4.2, ?_⟩
        conv => whnf
        refine ⟨rfl, rfl, _, hs1, ?_⟩
        conv => whnf
        refine ⟨rfl, _, hz, ?_⟩
        conv => whnf
        refine ⟨rfl, _, .inl rfl, ?_⟩
        conv => whnf
        refine ⟨hTm, by show (((List.range i).map madeStep).length + 1) * 80 ≤ _; rw [hTl]; omega, ?_⟩
        conv => whnf
        refine ⟨i + 1, ⟨hil, by omega⟩, ⟨rfl, rfl, rfl, rfl, rfl, congrArg Go.Rx.I wi, trivial⟩, ⟨[?x6a, ?x6b, ?x6c, ?x6d], ?x6e⟩, rfl, rfl⟩
        case x6e => exact madeB_eq hsn _ _ _ _ _ _
  · have hil : i = n := by have := of_decide_eq_false hlt; omega
    subst hil
    refine ⟨hTm, ?_⟩
    conv => whnf
    refine callU cb (fun _ => rfl) ?_
    conv => whnf
    have done : ∀ b, b = (e1 == 0 && (e2 == 0 && (wb && (x.lives.length == 1)))) → Fin (x, b) q := fun b hb => ⟨by rw [hq, hb]⟩
    have hlm : ((x.lives.map Live.enc).length : Int) = x.lives.length := by rw [List.length_map]
    have hle : (((x.lives.map Live.enc).length : Int) == 1) = (x.lives.length == 1) := by
      rw [hlm, Bool.eq_iff_iff]; simp; omega
    refine AW.draw T_ok rfl (.one 0 (.one 1 (.one 2 (.one 3 (.one 4 (.one 5 (.one 6 (.one 7 (.one 8 (.one 9 (.one 10 (.one 11 (.one 12 (.one 13 (.one 14 (.two 15 (.two 16 (listPl [17, 18, 19, 20]) 19 (listPl [16, 17, 18, 20])) 19 (listPl [15, 16, 17, 18, 20]))))))))))))))))) (by kernel_rfl) (by kernel_rfl) ?_
    conv => whnf
    refine callS (num16_con e1) rfl ?_
    conv => whnf
    split <;> rename_i h1 <;> conv => whnf
    · have h1' : (e1 == 0) = true := h1
      refine callS (num16_con e2) rfl ?_
      conv => whnf
      split <;> rename_i h2 <;> conv => whnf
      · have h2' : (e2 == 0) = true := h2
        refine callS cw rfl ?_
        conv => whnf
        cases wb with
        | false =>
          conv => whnf
          have d := done false (by rw [h1', h2']; rfl)
          refine ⟨?_, ?_⟩ <;> conv => whnf
          · refine ⟨?_, ?_⟩ <;> conv => whnf
            · exact finWBo d
            · exact finWBo d
          · exact finWBo d
        | true =>
          conv => whnf
          have d := done (x.lives.length == 1) (by rw [h1', h2']; rfl)
          rw [← hle] at d
          refine ⟨?_, ?_⟩ <;> conv => whnf
          · refine ⟨?_, ?_⟩ <;> conv => whnf
            · exact finWBo d
            · exact finWBo d
          · exact finWBo d
      · have h2' : (e2 == 0) = false := h2
        have d := done false (by rw [h1', h2']; rfl)
        refine ⟨?_, ?_⟩ <;> conv => whnf
        · refine ⟨?_, ?_⟩ <;> conv => whnf
          · exact finWBo d
          · exact finWBo d
        · exact finWBo d
    · have h1' : (e1 == 0) = false := h1
      have d := done false (by rw [h1']; rfl)
      refine ⟨?_, ?_⟩ <;> conv => whnf
      · refine ⟨?_, ?_⟩ <;> conv => whnf
        · exact finWBo d
        · exact finWBo d
      · exact finWBo d
end Go.Proofs.YtfjllfjmggooeaaGreatDoor.Rx

/- What the laws by made worlds lean on: a world is awake. -/
set_option linter.unusedVariables false
set_option linter.unusedSimpArgs false
namespace Go.Rx
def tk (w : Wd) : Wd := { w with clock := IntKind.i64.wrap (w.clock + 1) }
theorem readyW_may {w : Wd} {r : Rec} (h : (readyW w r).2 = 0) : worldB w = true ∧ beginsB r = true ∧ r.id = ((w.lives.length + 1 : Nat) : Int) ∧ keyI (sagasL w.lives) r.key < 0 ∧ (roomW w r).2 = 0 ∧ (roomW w r).1 = true ∧ readyW w r = jappP w.file r ∧ (jappP w.file r).2 = 0 := by
  unfold readyW at h ⊢
  split at h
  · cases h
  rename_i h1
  rw [if_neg h1]
  split at h
  · rename_i h2
    rw [if_pos h2]
    split at h
    · rename_i h3
      rw [if_pos h3]
      simp only [Bool.or_eq_true, Bool.not_eq_true', bne_iff_ne, ne_eq, decide_eq_true_eq, not_or, Bool.not_eq_false, Decidable.not_not, Int.not_le] at h1
      refine ⟨h1.1, h1.2.1, ?_, h1.2.2.2, h2, h3, rfl, h⟩
      have hl := (worldB_iff.1 h1.1).len
      rw [h1.2.2.1, wrapI (by omega)]; simp
    · cases h
  · rename_i h2; exact absurd h h2
theorem beginS_ok {r : Rec} (h : r.Ok) : (beginS r).1.Ok := by
  unfold beginS
  split
  · exact zS_ok
  · exact ⟨h.key, h.body, h.steps⟩
theorem crash_file {f : FileS} (h : f.Ok) (hb : fileB f = true) : (crashP f f.tail.size).1.Ok := file_ok (sync_may hb)
theorem beginWd_ok {w : Wd} {r : Rec} (hw : w.Ok) (hr : r.Ok) : (beginWd w r).1.Ok := by
  unfold beginWd
  split
  · rename_i h
    obtain ⟨h1, _, _, _, _, _, h7, h8⟩ := readyW_may h
    have hb : fileB (readyW w r).1 = true := by rw [h7]; exact app_file h8
    have hl := (worldB_iff.1 h1).len
    refine ⟨crash_file (file_ok hb) hb, hw.gl, by show (w.lives ++ [_]).length * 200 ≤ _; rw [List.length_append, List.length_singleton]; omega, hw.ol, hw.ledgers, fun v hv => ?_⟩
    rcases List.mem_append.1 hv with e | e
    · exact hw.lives v e
    · rw [List.mem_singleton.1 e]
      exact ⟨beginS_ok hr, zRec_ok⟩
  · exact zWd_ok
theorem madeX_ok (n : Nat) (hn : n ≤ 100) (outs : List Int) : (madeX n outs).1.Ok := beginWd_ok (newWd_ok 9000 outs) (madeR_ok n hn)
theorem tickWd_goes {w : Wd} (h : worldB w = true) (hc : w.clock < 1073741824) : tickWd w = ((goW 2000 (tk w)).1, 0) := by
  rw [tickWd, if_pos h, if_neg (by omega)]; rfl
theorem tickIn_of {w : Wd} (h : worldB w = true) (ho : w.clock < 1073741824 → okGo 2000 (tk w) = true) : TickIn w := by
  have hi := worldB_iff.1 h
  refine ⟨hi.wok, fun _ hc => ?_, fun he => ?_⟩
  · exact (hi.clock hc).goOk (by omega) (ho hc)
  · by_cases hc : w.clock < 1073741824
    · rw [tickWd_goes h hc]
      exact ((hi.clock hc).goEnd (k := 2000) (by omega)).wok
    · rw [tickWd, if_pos h, if_pos (by omega)] at he; cases he
/-- All ticks on the way, looked at. -/
def ticksB : Nat → Wd → Bool
  | 0, _ => true
  | k + 1, w => okGo 2000 (tk w) && (tickOk w && ticksB k (tickWd w).1)
theorem ticksIn_of : ∀ {k : Nat} {w : Wd}, worldB w = true → ticksB k w = true → TicksIn k w
  | 0, w, _, _ => trivial
  | k + 1, w, h, ht => by
    rw [ticksB, Bool.and_eq_true, Bool.and_eq_true] at ht
    refine ⟨tickIn_of h fun _ => ht.1, fun he => ticksIn_of ?_ ht.2.2⟩
    rw [tickOk, Bool.and_eq_true, Bool.and_eq_true] at he
    exact he.2.1
theorem ticksB_ok : ∀ {k : Nat} {w : Wd}, ticksB k w = true → (ticksW k w).2 = true
  | 0, w, _ => rfl
  | k + 1, w, ht => by
    rw [ticksB, Bool.and_eq_true, Bool.and_eq_true] at ht
    rw [ticksW, if_pos ht.2.1]
    exact ticksB_ok ht.2.2
theorem made_may {n : Nat} {outs : List Int} (h : (madeW n outs).2 = true) : worldB (madeW n outs).1 = true := by
  simp only [madeW, Bool.and_eq_true] at h
  exact h.2.2.1
/-! ### Nothing to do -/
def wakeW : Wd := (newWd 999 []).1
def wakeX : Wd × Int := beginWd wakeW b0
def wakeB : Bool := ((newWd 999 []).2 == 0) && (worldB wakeW && ((wakeX.2 == 0) && (worldB wakeX.1 && (okGo 2000 (tk wakeX.1) && ((tickWd wakeX.1).2 == 0 && (((idleWd (tickWd wakeX.1).1).2 == 0 && (idleWd (tickWd wakeX.1).1).1) && (tickWd wakeX.1).1.lives.length == 1))))))
theorem wake_all : wakeB = true := by kernel_rfl
theorem wake_step : stepWd wakeW = (zWd, 3) ∧ dueI wakeW = none := ⟨by kernel_rfl, by kernel_rfl⟩
theorem b0_ok : b0.Ok := recB_ok (by kernel_rfl)
end Go.Rx
namespace Go.Proofs.YtfjllfjmggooeaaGreatDoor.Rx
open Go.Rx Go.Proofs Go.Proofs.YtfjllfjmggooeaaGreatDoor.RxH
theorem wakes16_con : Con P 23 [] (Bl true) [] := by
  have hall := wake_all
  simp only [wakeB, Bool.and_eq_true, beq_iff_eq] at hall
  obtain ⟨a1, a2, a3, a4, a5, a6, ⟨a7, a8⟩, a9⟩ := hall
  have cn := newWd_con 999 [] (by decide)
  have hw : (newWd 999 []).1 = wakeW := rfl
  have cs := stepWd_con wakeW (newWd_ok 999 []) (fun _ => (worldB_iff.1 a2).stepOk (by omega) (.inr wake_step.2))
  have cb := beginWd_con wakeW (newWd_ok 999 []) b0 b0_ok
  have hx : beginWd wakeW b0 = wakeX := rfl
  rw [wake_step.1] at cs
  rw [hx] at cb
  have ht := tickIn_of a4 (fun _ => a5)
  have ct := tickWd_con wakeX.1 ht.ok ht.go
  have ci := idleWd_con (tickWd wakeX.1).1 (ht.out a6)
  generalize idleWd (tickWd wakeX.1).1 = id at ci a7 a8
  generalize tickWd wakeX.1 = y at ct ci a6 a9
  generalize wakeX = x at cb ct a3
  generalize newWd 999 [] = p at cn a1 hw
  obtain ⟨p, e1⟩ := p
  obtain ⟨x, e2⟩ := x
  obtain ⟨y, e3⟩ := y
  obtain ⟨b, e4⟩ := id
  simp only at a1 a3 a6 a7 a8 a9 hw ct ci
  subst a1 a3 a6 a7 a8 hw
  have hlm : ((y.lives.map Live.enc).length : Int) = 1 := by rw [List.length_map, a9]; rfl
  refine Con.of T_ok Tryz.func23 rfl (by kernel_rfl) (by kernel_rfl) (aw_of T_ok (by kernel_rfl) ?_)
  conv => whnf
  refine callP cn ⟨.inl rfl, .inr (.inl ⟨_, _, rfl, rfl, wkN 1⟩), trivial⟩ (fun _ => rfl) ?_
  conv => whnf
  refine callU cs (fun _ => rfl) ?_
  conv => whnf
  refine ⟨rfl, ?_⟩
  conv => whnf
  refine callU cb (fun _ => rfl) ?_
  conv => whnf
  refine callU ct (fun _ => rfl) ?_
  conv => whnf
  refine callU ci (fun _ => rfl) ?_
  conv => whnf
  refine callS (num16_con 0) rfl ?_
  conv => whnf
  refine callS (num16_con 3) rfl ?_
  conv => whnf
  refine callS (num16_con 0) rfl ?_
  conv => whnf
  refine callS (num16_con 0) rfl ?_
  conv => whnf
  refine callS (num16_con 0) rfl ?_
  conv => whnf
  exact finB ⟨by show (((y.lives.map Live.enc).length : Int) == 1) = true; rw [hlm]; rfl⟩
end Go.Proofs.YtfjllfjmggooeaaGreatDoor.Rx

/- Made worlds, run by the kernel: commits. -/
set_option linter.unusedVariables false
set_option linter.unusedSimpArgs false
namespace Go.Rx
/-- A made world, ticked: its first saga, and counts. -/
def endsMade (n : Nat) (outs : List Int) (t : Nat) (p : Saga → Int × Int → Bool) : Bool :=
  (madeW n outs).2 && (ticksB t (madeW n outs).1 && (match (ticksW t (madeW n outs).1).1.lives with
    | v :: _ => p v.saga (countsW (ticksW t (madeW n outs).1).1)
    | [] => false))
structure EndsAt (n : Nat) (outs : List Int) (t : Nat) (p : Saga → Int × Int → Bool) (v : Live) (l : List Live) : Prop where
  may : (madeW n outs).2 = true
  ticks : TicksIn t (madeW n outs).1
  ok : (ticksW t (madeW n outs).1).2 = true
  lives : (ticksW t (madeW n outs).1).1.lives = v :: l
  is : p v.saga (countsW (ticksW t (madeW n outs).1).1) = true
  wok : (ticksW t (madeW n outs).1).1.Ok
theorem ticksW_ok : ∀ {k : Nat} {w : Wd}, w.Ok → TicksIn k w → (ticksW k w).1.Ok
  | 0, w, h, _ => h
  | k + 1, w, h, ht => by
    rw [ticksW]
    split
    · rename_i he
      refine ticksW_ok (ht.1.out ?_) (ht.2 he)
      rw [tickOk, Bool.and_eq_true] at he
      exact eq_of_beq he.1
    · exact h
theorem ends_of {n : Nat} {outs : List Int} {t : Nat} {p : Saga → Int × Int → Bool} (h : endsMade n outs t p = true) : ∃ v l, EndsAt n outs t p v l := by
  rw [endsMade, Bool.and_eq_true, Bool.and_eq_true] at h
  obtain ⟨h1, h2, h3⟩ := h
  have hm := made_may h1
  have ht := ticksIn_of hm h2
  split at h3
  · rename_i v l hl
    exact ⟨v, l, h1, ht, ticksB_ok h2, hl, h3, ticksW_ok (worldB_iff.1 hm).wok ht⟩
  · cases h3
def isCommit (n : Nat) (s : Saga) (c : Int × Int) : Bool := s.status == 1 && (c.1 == n && c.2 == 0)
theorem commit_all : ((List.range 5).all fun i => endsMade (i + 1) [] 1 (isCommit (i + 1))) = true := by kernel_rfl
end Go.Rx

/- Made worlds, run by the kernel: refused calls. -/
set_option linter.unusedVariables false
namespace Go.Rx
def undoL1 (k : Nat) : List Int := (List.replicate (k + 1) 0).set k 1
def isUndo (k : Nat) (s : Saga) (c : Int × Int) : Bool := s.status == 2 && (c.1 == k && c.2 == k)
theorem undo_all1 : ((List.range 4).all fun i => (List.range (i + 1)).all fun k => endsMade (i + 1) (undoL1 k) 1 (isUndo k)) = true := by kernel_rfl
theorem undo_all2 : ((List.range 5).all fun k => endsMade 5 (undoL1 k) 1 (isUndo k)) = true := by kernel_rfl
theorem undo_at {i k : Nat} (hi : i < 5) (hk : k < i + 1) : endsMade (i + 1) (undoL1 k) 1 (isUndo k) = true := by
  rcases Nat.lt_or_ge i 4 with h | h
  · exact List.all_eq_true.1 (List.all_eq_true.1 undo_all1 i (List.mem_range.2 h)) k (List.mem_range.2 hk)
  · obtain rfl : i = 4 := by omega
    exact List.all_eq_true.1 undo_all2 k (List.mem_range.2 hk)
end Go.Rx

/- The law: refused calls are undone. -/
set_option linter.unusedVariables false
set_option linter.unusedSimpArgs false
namespace Go.Rx
abbrev wscV (p : WScript) : Blk := .var [.pv (pI p.w.clock), .pv (pS p.w.file.safe), .pv (pS p.w.file.tail), .pv (pI p.w.file.cap), .pv (encLedgers p.w.ledgers), .pv (encLives p.w.lives), .pv (encInts p.w.outs), .pv (pI p.w.taken), .pv (encWActs p.l)]
theorem undo_enc (u : Nat) : encInts (undoL1 u) = .sl 1 ((List.replicate (u + 1) [pI 0]).set u [pI 1]) := by
  show PV.sl 1 (((List.replicate (u + 1) (0 : Int)).set u 1).map fun n => [pI n]) = _
  rw [List.map_set, List.map_replicate]
theorem undo_len (u : Nat) : (undoL1 u).length = u + 1 := by rw [undoL1, List.length_set, List.length_replicate]
end Go.Rx
namespace Go.Proofs.YtfjllfjmggooeaaGreatDoor.Rx
open Go.Rx Go.Proofs Go.Proofs.YtfjllfjmggooeaaGreatDoor.RxH
theorem worldUndoes_con (p : WScript) (h : p.Ok) : Con P 5 [encWScript p] (Bl true) [] := by
  refine Con.of T_ok Tryz.func5 rfl (by kernel_rfl) (by kernel_rfl) (aw_of T_ok (by kernel_rfl) ?_)
  conv => whnf
  refine AW.loop (fun k : Nat => k ≤ 5) (fun k => [(1, .lf (.ptr 0 0)), (3, Go.Rx.I ((k + 1 : Nat) : Int))]) (fun _ => [wscV p]) (fun k => 5 - k) [] ?_ ?_
  · exact ⟨0, Nat.zero_le _, ⟨rfl, rfl, trivial⟩, ⟨[], rfl⟩, rfl, rfl⟩
  intro k hk
  refine aw_of T_ok (by kernel_rfl) ?_
  conv => whnf
  split <;> rename_i hlt <;> conv => whnf
  · have hkl : k < 5 := by have : ((k + 1 : Nat) : Int) ≤ 5 := of_decide_eq_true hlt
                           omega
    refine AW.loop (fun u : Nat => u ≤ k + 1) (fun u => [(1, .lf (.ptr 0 0)), (3, Go.Rx.I ((k + 1 : Nat) : Int)), (4, Go.Rx.I u)]) (fun _ => [wscV p]) (fun u => k + 1 - u) [] ?_ ?_
    · exact ⟨0, Nat.zero_le _, ⟨rfl, rfl, rfl, trivial⟩, ⟨[], rfl⟩, rfl, rfl⟩
    intro u hu
    refine aw_of T_ok (by kernel_rfl) ?_
    conv => whnf
    split <;> rename_i hlt2 <;> conv => whnf
    · have hul : u < k + 1 := by have : (u : Int) < ((k + 1 : Nat) : Int) := of_decide_eq_true hlt2
                                 omega
      obtain ⟨v, l, hE⟩ := ends_of (undo_at hkl hul)
      have wu : IntKind.i64.wrap ((u : Int) + 1) = ((u + 1 : Nat) : Int) := wrapI (by omega)
      have cm := made_con (k + 1) (by omega) (undoL1 u) (by rw [undo_len]; omega) (madeX_ok (k + 1) (by omega) (undoL1 u))
      have ct := ticks_con 1 _ (by omega) hE.ticks
      have cc := counts_con _ hE.wok
      have e1 := hE.may
      have e2 := hE.ok
      have e3 := hE.lives
      have e4 := hE.is
      clear hE
      rw [undo_enc] at cm
      generalize madeW (k + 1) (undoL1 u) = x at cm ct cc e1 e2 e3 e4
      obtain ⟨x, b⟩ := x
      simp only at ct cc e1 e2 e3 e4
      subst e1
      generalize ticksW 1 x = y at ct cc e2 e3 e4
      obtain ⟨y, b⟩ := y
      simp only at cc e2 e3 e4
      subst e2
      generalize countsW y = c at cc e4
      obtain ⟨did, back⟩ := c
      simp only [isUndo, Bool.and_eq_true, beq_iff_eq] at e4
      obtain ⟨e4, e5, e6⟩ := e4
      have hrow : (y.lives.map Live.enc)[(0 : Int).toNat]? = some v.enc := by rw [e3]; rfl
      have hrl : (List.replicate (u + 1) [pI 0]).length = u + 1 := List.length_replicate
      have hru : (List.replicate (u + 1) [pI 0])[u]? = some [pI 0] := by rw [List.getElem?_replicate, if_pos (by omega)]
      refine ⟨rfl, u + 1, wu, by show (u + 1) * 8 ≤ _; omega, ?_⟩
      conv => whnf
      refine ⟨hrl, by omega, by omega, ?_⟩
      conv => whnf
      refine ⟨rfl, hrl, _, hru, by decide, ?_⟩
      conv => whnf
      refine ⟨by rw [List.length_set]; exact hrl, ?_⟩
      conv => whnf
      refine callU cm (fun _ => rfl) ?_
      conv => whnf
      refine callU ct (fun _ => rfl) ?_
      conv => whnf
      refine callS cc rfl ?_
      conv => whnf
      refine ⟨by decide, _, hrow, ?_⟩
      conv => whnf
      split <;> rename_i t1 <;> conv => whnf
      · have t1' : (v.saga.status != 2) = true := t1
        rw [e4] at t1'; cases t1'
      split <;> rename_i t2 <;> conv => whnf
      · have t2' : (did != (u : Int)) = true := t2
        rw [e5] at t2'; simp at t2'
      split <;> rename_i t3 <;> conv => whnf
      · have t3' : (back != (u : Int)) = true := t3
        rw [e6] at t3'; simp at t3'
      exact ⟨u + 1, ⟨hul, by omega⟩, ⟨rfl, rfl, congrArg Go.Rx.I wu, trivial⟩, ⟨[_, _], rfl⟩, rfl, rfl⟩
    · have hul : ¬ u < k + 1 := by have : ¬ (u : Int) < ((k + 1 : Nat) : Int) := of_decide_eq_false hlt2
                                   omega
      exact ⟨k + 1, ⟨hkl, by omega⟩, ⟨rfl, congrArg Go.Rx.I (wrapI (by omega)), trivial⟩, ⟨[], rfl⟩, rfl, rfl⟩
  · refine callS wakes16_con rfl ?_
    conv => whnf
    exact finB ⟨rfl⟩
end Go.Proofs.YtfjllfjmggooeaaGreatDoor.Rx

/- Made worlds, run by the kernel: refused undoings. -/
set_option linter.unusedVariables false
namespace Go.Rx
def stopL (k u : Nat) : List Int := ((List.replicate (k + u + 3) 0).set k 1).set (k + u + 2) 1
def isStop (k u : Nat) (s : Saga) (c : Int × Int) : Bool := s.status == 3 && (c.1 == k && (c.2 == u && s.left == ((k - u : Nat) : Int)))
theorem stop_all1 : ((List.range 3).all fun i => (List.range (i + 1)).all fun u => endsMade 5 (stopL (i + 1) u) 2 (isStop (i + 1) u)) = true := by kernel_rfl
theorem stop_all2 : ((List.range 4).all fun u => endsMade 5 (stopL 4 u) 2 (isStop 4 u)) = true := by kernel_rfl
theorem stop_at {i u : Nat} (hi : i < 4) (hk : u < i + 1) : endsMade 5 (stopL (i + 1) u) 2 (isStop (i + 1) u) = true := by
  rcases Nat.lt_or_ge i 3 with h | h
  · exact List.all_eq_true.1 (List.all_eq_true.1 stop_all1 i (List.mem_range.2 h)) u (List.mem_range.2 hk)
  · obtain rfl : i = 3 := by omega
    exact List.all_eq_true.1 stop_all2 u (List.mem_range.2 hk)
end Go.Rx

/- The law: an undoing that is refused stops a saga. -/
set_option linter.unusedVariables false
set_option maxRecDepth 8000
set_option linter.unusedSimpArgs false
namespace Go.Rx
abbrev wscV2 (p : WScript) : Blk := .var [.pv (pI p.w.clock), .pv (pS p.w.file.safe), .pv (pS p.w.file.tail), .pv (pI p.w.file.cap), .pv (encLedgers p.w.ledgers), .pv (encLives p.w.lives), .pv (encInts p.w.outs), .pv (pI p.w.taken), .pv (encWActs p.l)]
theorem stop_enc (k u : Nat) : encInts (stopL k u) = .sl 1 (((List.replicate (k + u + 3) [pI 0]).set k [pI 1]).set (k + u + 2) [pI 1]) := by
  show PV.sl 1 ((((List.replicate (k + u + 3) (0 : Int)).set k 1).set (k + u + 2) 1).map fun n => [pI n]) = _
  rw [List.map_set, List.map_set, List.map_replicate]
theorem stop_len (k u : Nat) : (stopL k u).length = k + u + 3 := by rw [stopL, List.length_set, List.length_set, List.length_replicate]
end Go.Rx
namespace Go.Proofs.YtfjllfjmggooeaaGreatDoor.Rx
open Go.Rx Go.Proofs Go.Proofs.YtfjllfjmggooeaaGreatDoor.RxH
theorem worldStops_con (p : WScript) (h : p.Ok) : Con P 6 [encWScript p] (Bl true) [] := by
  refine Con.of T_ok Tryz.func6 rfl (by kernel_rfl) (by kernel_rfl) (aw_of T_ok (by kernel_rfl) ?_)
  conv => whnf
  refine AW.loop (fun k : Nat => k ≤ 4) (fun k => [(1, .lf (.ptr 0 0)), (3, Go.Rx.I ((k + 1 : Nat) : Int))]) (fun _ => [wscV2 p]) (fun k => 4 - k) [] ?_ ?_
  · exact ⟨0, Nat.zero_le _, ⟨rfl, rfl, trivial⟩, ⟨[], rfl⟩, rfl, rfl⟩
  intro k hk
  refine aw_of T_ok (by kernel_rfl) ?_
  conv => whnf
  split <;> rename_i hlt <;> conv => whnf
  · have hkl : k < 4 := by have : ((k + 1 : Nat) : Int) < 5 := of_decide_eq_true hlt
                           omega
    refine AW.loop (fun u : Nat => u ≤ k + 1) (fun u => [(1, .lf (.ptr 0 0)), (3, Go.Rx.I ((k + 1 : Nat) : Int)), (4, Go.Rx.I u)]) (fun _ => [wscV2 p]) (fun u => k + 1 - u) [] ?_ ?_
    · exact ⟨0, Nat.zero_le _, ⟨rfl, rfl, rfl, trivial⟩, ⟨[], rfl⟩, rfl, rfl⟩
    intro u hu
    refine aw_of T_ok (by kernel_rfl) ?_
    conv => whnf
    split <;> rename_i hlt2 <;> conv => whnf
    · have hul : u < k + 1 := by have : (u : Int) < ((k + 1 : Nat) : Int) := of_decide_eq_true hlt2
                                 omega
      obtain ⟨v, l, hE⟩ := ends_of (stop_at hkl hul)
      have wu : IntKind.i64.wrap ((u : Int) + 1) = ((u + 1 : Nat) : Int) := wrapI (by omega)
      have w0 : IntKind.i64.wrap (((k + 1 : Nat) : Int) + (u : Int)) = ((k + 1 + u : Nat) : Int) := wrapI (by omega)
      have w3 : IntKind.i64.wrap (IntKind.i64.wrap (((k + 1 : Nat) : Int) + (u : Int)) + 3) = ((k + 1 + u + 3 : Nat) : Int) := by rw [w0]; exact wrapI (by omega)
      have w2 : IntKind.i64.wrap (IntKind.i64.wrap (((k + 1 : Nat) : Int) + (u : Int)) + 2) = ((k + 1 + u + 2 : Nat) : Int) := by rw [w0]; exact wrapI (by omega)
      have cm := made_con 5 (by omega) (stopL (k + 1) u) (by rw [stop_len]; omega) (madeX_ok 5 (by omega) (stopL (k + 1) u))
      have ct := ticks_con 2 _ (by omega) hE.ticks
      have cc := counts_con _ hE.wok
      have e1 := hE.may
      have e2 := hE.ok
      have e3 := hE.lives
      have e4 := hE.is
      clear hE
      rw [stop_enc] at cm
      generalize madeW 5 (stopL (k + 1) u) = x at cm ct cc e1 e2 e3 e4
      obtain ⟨x, b⟩ := x
      simp only at ct cc e1 e2 e3 e4
      subst e1
      generalize ticksW 2 x = y at ct cc e2 e3 e4
      obtain ⟨y, b⟩ := y
      simp only at cc e2 e3 e4
      subst e2
      generalize countsW y = c at cc e4
      obtain ⟨did, back⟩ := c
      simp only [isStop, Bool.and_eq_true, beq_iff_eq] at e4
      obtain ⟨e4, e5, e6, e7⟩ := e4
      have hrow : (y.lives.map Live.enc)[(0 : Int).toNat]? = some v.enc := by rw [e3]; rfl
      have hrl : (List.replicate (k + 1 + u + 3) [pI 0]).length = k + 1 + u + 3 := List.length_replicate
      have hru : (List.replicate (k + 1 + u + 3) [pI 0])[k + 1]? = some [pI 0] := by rw [List.getElem?_replicate, if_pos (by omega)]
      have hrl2 : ((List.replicate (k + 1 + u + 3) [pI 0]).set (k + 1) [pI 1]).length = k + 1 + u + 3 := by rw [List.length_set]; exact hrl
      have hru2 : ((List.replicate (k + 1 + u + 3) [pI 0]).set (k + 1) [pI 1])[(IntKind.i64.wrap (IntKind.i64.wrap (((k + 1 : Nat) : Int) + (u : Int)) + 2)).toNat]? = some [pI 0] := by
        rw [w2, Int.toNat_natCast, List.getElem?_set_ne (by omega), List.getElem?_replicate, if_pos (by omega)]
      have ix : (IntKind.i64.wrap (IntKind.i64.wrap (((k + 1 : Nat) : Int) + (u : Int)) + 2)).toNat = k + 1 + u + 2 := by rw [w2, Int.toNat_natCast]
      rw [← ix] at cm
      refine ⟨rfl, k + 1 + u + 3, w3, by show (k + 1 + u + 3) * 8 ≤ _; omega, ?_⟩
      conv => whnf
      refine ⟨hrl, by omega, by omega, ?_⟩
      conv => whnf
      refine ⟨rfl, hrl, _, hru, by decide, ?_⟩
      conv => whnf
      refine ⟨hrl2, by rw [w2]; omega, by rw [w2]; omega, ?_⟩
      conv => whnf
      refine ⟨rfl, hrl2, _, hru2, by decide, ?_⟩
      conv => whnf
      refine ⟨by rw [List.length_set]; exact hrl2, ?_⟩
      conv => whnf
      refine callU cm (fun _ => rfl) ?_
      conv => whnf
      refine callU ct (fun _ => rfl) ?_
      conv => whnf
      refine callS cc rfl ?_
      conv => whnf
      refine ⟨by decide, _, hrow, ?_⟩
      conv => whnf
      split <;> rename_i t1 <;> conv => whnf
      · have t1' : (v.saga.status != 3) = true := t1
        rw [e4] at t1'; cases t1'
      split <;> rename_i t2 <;> conv => whnf
      · have t2' : (did != ((k + 1 : Nat) : Int)) = true := t2
        rw [e5] at t2'; simp at t2'
      split <;> rename_i t3 <;> conv => whnf
      · have t3' : (back != (u : Int)) = true := t3
        rw [e6] at t3'; simp at t3'
      refine ⟨by decide, _, hrow, ?_⟩
      conv => whnf
      split <;> rename_i t4 <;> conv => whnf
      · have t4' : (v.saga.left != IntKind.i64.wrap (((k + 1 : Nat) : Int) - (u : Int))) = true := t4
        rw [e7, wrapI (by omega)] at t4'
        have : (((k + 1 - u : Nat) : Int)) = ((k + 1 : Nat) : Int) - (u : Int) := by omega
        rw [this] at t4'; simp at t4'
      exact ⟨u + 1, ⟨hul, by omega⟩, ⟨rfl, rfl, congrArg Go.Rx.I wu, trivial⟩, ⟨[_, _], rfl⟩, rfl, rfl⟩
    · have hul : ¬ u < k + 1 := by have : ¬ (u : Int) < ((k + 1 : Nat) : Int) := of_decide_eq_false hlt2
                                   omega
      exact ⟨k + 1, ⟨hkl, by omega⟩, ⟨rfl, congrArg Go.Rx.I (wrapI (by omega)), trivial⟩, ⟨[], rfl⟩, rfl, rfl⟩
  · refine callS wakes16_con rfl ?_
    conv => whnf
    exact finB ⟨rfl⟩
end Go.Proofs.YtfjllfjmggooeaaGreatDoor.Rx

/- Made worlds, run by the kernel: calls that fail, answers that are lost. -/
set_option linter.unusedVariables false
namespace Go.Rx
def isTry (kind : Int) (n : Nat) (s : Saga) (c : Int × Int) : Bool :=
  if n < 4 then s.status == 1 && (c.1 == 1 && c.2 == 0) else if n = 4 then s.status == 2 && (c.1 == c.2 && (decide (c.1 ≤ 1) && ((kind != 3 || c.1 == 1) && (kind != 2 || c.1 == 0)))) else true
theorem try_fail : ((List.range 5).all fun i => endsMade 1 (List.replicate (i + 1) 2) 19 (isTry 2 (i + 1))) = true := by kernel_rfl
theorem try_lost : ((List.range 5).all fun i => endsMade 1 (List.replicate (i + 1) 3) 19 (isTry 3 (i + 1))) = true := by kernel_rfl
theorem try_at {a i : Nat} (ha : a < 2) (hi : i < 5) : endsMade 1 (List.replicate (i + 1) ((a : Int) + 2)) 19 (isTry ((a : Int) + 2) (i + 1)) = true := by
  have : a = 0 ∨ a = 1 := by omega
  rcases this with rfl | rfl
  · exact List.all_eq_true.1 try_fail i (List.mem_range.2 hi)
  · exact List.all_eq_true.1 try_lost i (List.mem_range.2 hi)
end Go.Rx

/- The law: a call is tried so often, and no more. -/
set_option linter.unusedVariables false
set_option maxRecDepth 8000
set_option linter.unusedSimpArgs false
namespace Go.Rx
abbrev wscV3 (p : WScript) : Blk := .var [.pv (pI p.w.clock), .pv (pS p.w.file.safe), .pv (pS p.w.file.tail), .pv (pI p.w.file.cap), .pv (encLedgers p.w.ledgers), .pv (encLives p.w.lives), .pv (encInts p.w.outs), .pv (pI p.w.taken), .pv (encWActs p.l)]
theorem rep_enc (n : Nat) (x : Int) : intRows (List.replicate n x) = List.replicate n [pI x] := List.map_replicate ..
end Go.Rx
namespace Go.Proofs.YtfjllfjmggooeaaGreatDoor.Rx
open Go.Rx Go.Proofs Go.Proofs.YtfjllfjmggooeaaGreatDoor.RxH
set_option maxHeartbeats 1000000 in
theorem worldTries_con (p : WScript) (h : p.Ok) : Con P 7 [encWScript p] (Bl true) [] := by
  refine Con.of T_ok Tryz.func7 rfl (by kernel_rfl) (by kernel_rfl) (aw_of T_ok (by kernel_rfl) ?_)
  conv => whnf
  refine AW.loop (fun a : Nat => a ≤ 2) (fun a => [(1, .lf (.ptr 0 0)), (3, Go.Rx.I ((a : Int) + 2))]) (fun _ => [wscV3 p]) (fun a => 2 - a) [] ?_ ?_
  · exact ⟨0, Nat.zero_le _, ⟨rfl, rfl, trivial⟩, ⟨[], rfl⟩, rfl, rfl⟩
  intro a ha
  refine aw_of T_ok (by kernel_rfl) ?_
  conv => whnf
  split <;> rename_i hlt <;> conv => whnf
  · have hal : a < 2 := by have : (a : Int) + 2 ≤ 3 := of_decide_eq_true hlt
                           omega
    refine AW.loop (fun i : Nat => i ≤ 5) (fun i => [(1, .lf (.ptr 0 0)), (3, Go.Rx.I ((a : Int) + 2)), (4, Go.Rx.I ((i + 1 : Nat) : Int))]) (fun _ => [wscV3 p]) (fun i => 5 - i) [] ?_ ?_
    · exact ⟨0, Nat.zero_le _, ⟨rfl, rfl, rfl, trivial⟩, ⟨[], rfl⟩, rfl, rfl⟩
    intro i hi
    refine aw_of T_ok (by kernel_rfl) ?_
    conv => whnf
    split <;> rename_i hlt2 <;> conv => whnf
    · have hil : i < 5 := by have : ((i + 1 : Nat) : Int) ≤ 5 := of_decide_eq_true hlt2
                             omega
      refine AW.loop (fun m : Nat => m ≤ i + 1) (fun m => [(1, .lf (.ptr 0 0)), (3, Go.Rx.I ((a : Int) + 2)), (4, Go.Rx.I ((i + 1 : Nat) : Int)), (5, .lf (.own 1 m)), (6, Go.Rx.I m)]) (fun m => [wscV3 p, .arr 3 1 (List.replicate m [pI ((a : Int) + 2)])]) (fun m => i + 1 - m) [.slot 5 3 1] ?_ ?_
      · exact ⟨rfl, 0, Nat.zero_le _, ⟨rfl, rfl, rfl, rfl, rfl, trivial⟩, ⟨[], rfl⟩, rfl, rfl⟩
      intro m hm
      refine aw_of T_ok (by kernel_rfl) ?_
      conv => whnf
      split <;> rename_i hlt3 <;> conv => whnf
      · have hml : m < i + 1 := by have : (m : Int) < ((i + 1 : Nat) : Int) := of_decide_eq_true hlt3
                                   omega
        refine ⟨rfl, _, .inl rfl, ?_⟩
        conv => whnf
        refine ⟨List.length_replicate, by show (m + 1) * 8 ≤ _; omega, ?_⟩
        conv => whnf
        refine ⟨m + 1, ⟨hml, by omega⟩, ⟨rfl, rfl, rfl, rfl, congrArg Go.Rx.I (wrapI (by omega)), trivial⟩, ⟨[?zr], ?zb⟩, rfl, rfl⟩
        case zb =>
          show _ = [_, Blk.arr _ 1 (List.replicate (m + 1) [pI ((a : Int) + 2)])] ++ [_]
          rw [List.replicate_succ']
          rfl
      · have hml : m = i + 1 := by have : ¬ (m : Int) < ((i + 1 : Nat) : Int) := of_decide_eq_false hlt3
                                   omega
        subst hml
        obtain ⟨v, l, hE⟩ := ends_of (try_at hal hil)
        have wi : IntKind.i64.wrap (((i + 1 : Nat) : Int) + 1) = ((i + 1 + 1 : Nat) : Int) := wrapI (by omega)
        have cm := made_con 1 (by omega) (List.replicate (i + 1) ((a : Int) + 2)) (by rw [List.length_replicate]; omega) (madeX_ok 1 (by omega) _)
        have ct := ticks_con 19 _ (by omega) hE.ticks
        have cc := counts_con _ hE.wok
        have e1 := hE.may
        have e2 := hE.ok
        have e3 := hE.lives
        have e4 := hE.is
        clear hE
        have hen : encInts (List.replicate (i + 1) ((a : Int) + 2)) = .sl 1 (List.replicate (i + 1) [pI ((a : Int) + 2)]) := congrArg (PV.sl 1) (rep_enc _ _)
        rw [hen] at cm
        generalize madeW 1 (List.replicate (i + 1) ((a : Int) + 2)) = x at cm ct cc e1 e2 e3 e4
        obtain ⟨x, b⟩ := x
        simp only at ct cc e1 e2 e3 e4
        subst e1
        generalize ticksW 19 x = y at ct cc e2 e3 e4
        obtain ⟨y, b⟩ := y
        simp only at cc e2 e3 e4
        subst e2
        generalize countsW y = c at cc e4
        obtain ⟨did, back⟩ := c
        have hrow : (y.lives.map Live.enc)[(0 : Int).toNat]? = some v.enc := by rw [e3]; rfl
        refine ⟨List.length_replicate, ?_⟩
        conv => whnf
        refine callU cm (fun _ => rfl) ?_
        conv => whnf
        refine callU ct (fun _ => rfl) ?_
        conv => whnf
        refine callS cc rfl ?_
        conv => whnf
        refine ⟨by decide, _, hrow, ?_⟩
        conv => whnf
        split <;> rename_i h4 <;> conv => whnf
        · have h4' : i + 1 < 4 := by have : ((i + 1 : Nat) : Int) < 4 := of_decide_eq_true h4
                                     omega
          rw [isTry, if_pos h4'] at e4
          simp only [Bool.and_eq_true, beq_iff_eq] at e4
          obtain ⟨e4, e5, e6⟩ := e4
          split <;> rename_i t1 <;> conv => whnf
          · have t1' : (v.saga.status != 1) = true := t1
            rw [e4] at t1'; cases t1'
          split <;> rename_i t2 <;> conv => whnf
          · have t2' : (did != 1) = true := t2
            rw [e5] at t2'; cases t2'
          split <;> rename_i t3 <;> conv => whnf
          · have t3' : (back != 0) = true := t3
            rw [e6] at t3'; cases t3'
          split <;> rename_i h5 <;> conv => whnf
          · have h5' : (((i + 1 : Nat) : Int) == 4) = true := h5
            have := eq_of_beq h5'
            omega
          exact ⟨i + 1, ⟨hil, by omega⟩, ⟨rfl, rfl, congrArg Go.Rx.I wi, trivial⟩, ⟨[_, _], rfl⟩, rfl, rfl⟩
        · have h4' : ¬ i + 1 < 4 := by have : ¬ ((i + 1 : Nat) : Int) < 4 := of_decide_eq_false h4
                                       omega
          rw [isTry, if_neg h4'] at e4
          split <;> rename_i h5 <;> conv => whnf
          · have h5' : (((i + 1 : Nat) : Int) == 4) = true := h5
            have h5'' := eq_of_beq h5'
            rw [if_pos (by omega)] at e4
            simp only [Bool.and_eq_true, beq_iff_eq, decide_eq_true_eq, Bool.or_eq_true, bne_iff_ne] at e4
            obtain ⟨e4, e5, e6, e7, e8⟩ := e4
            split <;> rename_i t1 <;> conv => whnf
            · have t1' : (v.saga.status != 2) = true := t1
              rw [e4] at t1'; cases t1'
            split <;> rename_i t2 <;> conv => whnf
            · have t2' : (did != back) = true := t2
              rw [e5] at t2'; simp at t2'
            split <;> rename_i t3 <;> conv => whnf
            · have t3' : did > 1 := of_decide_eq_true t3
              omega
            split <;> rename_i t4 <;> conv => whnf
            · have t4' : ((a : Int) + 2 == 3) = true := t4
              have t4'' := eq_of_beq t4'
              split <;> rename_i t5 <;> conv => whnf
              · have t5' : (did != 1) = true := t5
                rcases e7 with e7 | e7
                · exact absurd t4'' e7
                · rw [e7] at t5'; cases t5'
              split <;> rename_i t6 <;> conv => whnf
              · have t6' : ((a : Int) + 2 == 2) = true := t6
                have := eq_of_beq t6'
                omega
              exact ⟨i + 1, ⟨hil, by omega⟩, ⟨rfl, rfl, congrArg Go.Rx.I wi, trivial⟩, ⟨[_, _], rfl⟩, rfl, rfl⟩
            · split <;> rename_i t6 <;> conv => whnf
              · have t6' : ((a : Int) + 2 == 2) = true := t6
                have t6'' := eq_of_beq t6'
                split <;> rename_i t7 <;> conv => whnf
                · have t7' : (did != 0) = true := t7
                  rcases e8 with e8 | e8
                  · exact absurd t6'' e8
                  · rw [e8] at t7'; cases t7'
                exact ⟨i + 1, ⟨hil, by omega⟩, ⟨rfl, rfl, congrArg Go.Rx.I wi, trivial⟩, ⟨[_, _], rfl⟩, rfl, rfl⟩
              · exact ⟨i + 1, ⟨hil, by omega⟩, ⟨rfl, rfl, congrArg Go.Rx.I wi, trivial⟩, ⟨[_, _], rfl⟩, rfl, rfl⟩
          · exact ⟨i + 1, ⟨hil, by omega⟩, ⟨rfl, rfl, congrArg Go.Rx.I wi, trivial⟩, ⟨[_, _], rfl⟩, rfl, rfl⟩
    · have hil : ¬ i < 5 := by have : ¬ ((i + 1 : Nat) : Int) ≤ 5 := of_decide_eq_false hlt2
                               omega
      exact ⟨a + 1, ⟨hal, by omega⟩, ⟨rfl, congrArg Go.Rx.I (by rw [wrapI (by omega)]; omega), trivial⟩, ⟨[], rfl⟩, rfl, rfl⟩
  · refine callS wakes16_con rfl ?_
    conv => whnf
    exact finB ⟨rfl⟩
end Go.Proofs.YtfjllfjmggooeaaGreatDoor.Rx
