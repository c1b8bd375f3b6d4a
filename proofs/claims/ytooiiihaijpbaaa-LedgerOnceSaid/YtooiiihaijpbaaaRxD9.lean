/- The two answers are one; what writes over a ledger. -/
import Derived.Test.YtooiiihaijpbaaaRxD8
set_option linter.unusedVariables false
set_option linter.unusedSimpArgs false
namespace Go.Rx
theorem keys_apart {g : Ledger} (h : entriesB g = true) {i j : Nat} (hj : j < g.entries.length) (hij : i < j) : ¬ (g.entries[i]).key = (g.entries[j]).key := by
  have h1 := rng_at h hj
  rw [entryAt, List.getElem?_eq_getElem hj] at h1
  simp only [Bool.and_eq_true, Bool.not_eq_true'] at h1
  have h2 := List.any_eq_false.1 h1.2.2.1 g.entries[i] (by
    refine List.mem_of_getElem? (i := i) ?_
    rw [List.getElem?_take_of_lt hij, List.getElem?_eq_getElem (by omega)])
  intro e
  exact h2 (by simpa using e)
theorem done_any {g : Ledger} (h : entriesB g = true) (k : Int) : (g.entries.any fun e => e.key == k && !e.back) = doneB g.entries k := by
  rw [doneB]
  cases hf : g.entries.find? (fun e => e.key == k) with
  | none =>
    simp only
    refine List.any_eq_false.2 fun e he => ?_
    have := List.find?_eq_none.1 hf e he
    simp only [Bool.and_eq_true, not_and]
    intro h2
    exact absurd h2 this
  | some e =>
    simp only
    have he := List.mem_of_find?_eq_some hf
    have hk : e.key = k := by have := List.find?_some hf; simpa using this
    cases hb : e.back with
    | false => exact List.any_eq_true.2 ⟨e, he, by rw [hb]; simp [hk]⟩
    | true =>
      refine List.any_eq_false.2 fun x hx => ?_
      simp only [Bool.and_eq_true, Bool.not_eq_true', beq_iff_eq, not_and, Bool.not_eq_false]
      intro hxk
      obtain ⟨i, hi, rfl⟩ := List.getElem_of_mem he
      obtain ⟨j, hj, rfl⟩ := List.getElem_of_mem hx
      rcases Nat.lt_trichotomy i j with h1 | h1 | h1
      · exact absurd (hk.trans hxk.symm) (keys_apart h hj h1)
      · subst h1; exact hb
      · exact absurd (hxk.trans hk.symm) (keys_apart h hi h1)
theorem out_cases {out : Int} (h : outB out = true) : out = 0 ∨ out = 1 ∨ out = 2 ∨ out = 3 := by
  rw [outB] at h
  simp only [Bool.and_eq_true, decide_eq_true_eq] at h
  omega
theorem do_hap {g : Ledger} {k of' : Int} {back no : Bool} {op who : ByteArray} {n out : Int} (ho : outB out = true) (hno : no = !(isB g.entries of' back)) : doL g ⟨k, back, op, who, n⟩ no out = hapL g k of' back op who n out := by
  have hc := out_cases ho
  rw [doL, hapL]
  by_cases h1 : g.known.contains k = true
  · rw [if_pos h1, if_pos h1]
    rcases hc with rfl | rfl | rfl | rfl <;> rfl
  · rw [if_neg h1, if_neg h1]
    by_cases h2 : out = 1 ∨ out = 2
    · rw [if_pos h2, if_pos h2]
    · rw [if_neg h2, if_neg h2]
      by_cases h3 : 200 ≤ g.entries.length ∨ 400 ≤ g.known.length
      · rw [if_pos h3, if_pos h3]
      · rw [if_neg h3, if_neg h3, hno]
        have e1 : ansL out = ansH out := by
          rcases hc with rfl | rfl | rfl | rfl
          · rfl
          · exact absurd (.inl rfl) h2
          · exact absurd (.inr rfl) h2
          · rfl
        rw [e1]
        cases isB g.entries of' back <;> rfl
theorem ask_parts {g : Ledger} {k : Int} {op who : ByteArray} {n out : Int} (h : askB g k op who n out = true) : ledgerB g = true ∧ outB out = true := by
  rw [askB, Bool.and_eq_true, Bool.and_eq_true] at h
  exact ⟨h.1, h.2.2⟩
theorem call_hap {g : Ledger} {k of' : Int} {op who : ByteArray} {n out : Int} (h : askB g k op who n out = true) : callL g k op who n out = hapL g k of' false op who n out := by
  rw [callL, if_pos h]
  exact do_hap (ask_parts h).2 (by simp [isB])
theorem undo_hap {g : Ledger} {k of' : Int} {op who : ByteArray} {n out : Int} (h : askB g k op who n out = true) (ho : 1 ≤ of' ∧ of' ≤ 1073741824) : undoL g k of' op who n out = hapL g k of' true op who n out := by
  rw [undoL, if_pos ⟨h, ho⟩]
  have hp := ask_parts h
  refine do_hap hp.2 ?_
  rw [isB, ← done_any (ledger_parts hp.1).2.2.2.1]
  simp
theorem hap_ok {g : Ledger} (h : g.Ok) (hb : ledgerB g = true) {k of' : Int} {back : Bool} {op who : ByteArray} {n out : Int} (ho : okS op) (hw : okS who) : (hapL g k of' back op who n out).1.Ok := by
  have hp := ledger_parts hb
  have hz : zL.Ok := ⟨by decide, by decide, fun e he => by cases he⟩
  rw [hapL]
  split
  · exact h
  split
  · exact h
  split
  · exact hz
  · refine ⟨?_, ?_, ?_⟩
    · show (if isB g.entries of' back = true then _ else _ : List Entry).length * 56 ≤ _
      split
      · rw [List.length_append]; simp; omega
      · omega
    · show (insL g.known _ k).length * 8 ≤ _
      rw [ins_len (posL_le _ _)]; omega
    · intro e he
      replace he : e ∈ (if isB g.entries of' back = true then g.entries ++ [⟨k, back, op, who, n⟩] else g.entries : List Entry) := he
      split at he
      · rw [List.mem_append, List.mem_singleton] at he
        rcases he with he | rfl
        · exact h.each e he
        · exact ⟨ho, hw⟩
      · exact h.each e he
def spoiltE : Entry := ⟨-9, false, ⟨#[]⟩, ⟨#[]⟩, 0⟩
theorem set_next' {α β : Type} {e : α → β} {x : β} {l : List α} {k : Nat} (h : k < l.length) : ((l.take k).map (fun _ => x) ++ (l.drop k).map e).set (k : Int).toNat x = (l.take (k + 1)).map (fun _ => x) ++ (l.drop (k + 1)).map e := by
  have h1 : ((l.take k).map (fun _ => x)).length = k := by rw [List.length_map, List.length_take]; omega
  rw [Int.toNat_natCast, List.set_append_right _ _ (by omega), h1, Nat.sub_self, List.drop_eq_getElem_cons h, List.take_succ_eq_append_getElem h, List.map_append, List.map_cons, List.set_cons_zero, List.append_assoc]
  rfl
end Go.Rx
namespace Go.Proofs.Ytooiiihaijpbaaa.Rx
open Go.Rx Go.Proofs Go.Proofs.Ytooiiihaijpbaaa.RxH

theorem spoilNumbers_con (l : List Int) (hl : l.length * 8 ≤ 140737488351232) : ConG P 61 [.arr 3 1 (intRows l)] [.lf (.own 0 l.length)] (.tup []) [.arr 3 1 (l.map fun _ => [pI (-99)])] := by
  have hm : (intRows l).length = l.length := List.length_map ..
  refine ConG.of T_ok Try.func61 rfl (by kernel_rfl) (by kernel_rfl) (aw_of T_ok (by kernel_rfl) ?_)
  conv => whnf
  refine AW.loop (fun k : Nat => k ≤ l.length) (fun k => [(0, .lf (.own 0 l.length)), (2, Go.Rx.I k)]) (fun k => [.arr 3 1 ((l.take k).map (fun _ => [pI (-99)]) ++ (l.drop k).map fun n => [pI n])]) (fun k => l.length - k) [] ?_ ?_
  · exact ⟨0, Nat.zero_le _, ⟨rfl, rfl, trivial⟩, ⟨[], rfl⟩, rfl, rfl⟩
  rintro k hk
  have hrl : ((l.take k).map (fun _ => [pI (-99)]) ++ (l.drop k).map fun n => [pI n]).length = l.length := by simp; omega
  refine aw_of T_ok (by kernel_rfl) ?_
  conv => whnf
  refine ⟨hrl, ?_⟩
  conv => whnf
  split <;> rename_i hlt <;> conv => whnf
  · have hkl : k < l.length := by have := of_decide_eq_true hlt; omega
    refine ⟨hrl, by omega, by omega, ?_⟩
    conv => whnf
    refine ⟨rfl, hrl, [pI l[k]], ?_, ?_⟩
    · show ((l.take k).map (fun _ => [pI (-99)]) ++ (l.drop k).map fun n => [pI n])[(k : Int).toNat]? = _
      rw [Int.toNat_natCast, List.getElem?_append_right (by simp; omega)]
      simp [Nat.min_eq_left hk, hkl]
    conv => whnf
    refine ⟨by decide, ?_⟩
    conv => whnf
    refine ⟨k + 1, ⟨by omega, by omega⟩, ⟨rfl, congrArg Go.Rx.I (wrapI (by omega)), trivial⟩, ⟨[], ?e⟩, rfl, rfl⟩
    case e =>
      rw [List.append_nil]
      exact congrArg (fun r => [Blk.arr _ 1 r]) (set_next' (e := fun n => [pI n]) (x := [pI (-99)]) hkl)
  · have hkl : k = l.length := by have := of_decide_eq_false hlt; omega
    subst hkl
    refine ⟨[], [0], [], [], rfl, ?_, rfl, trivial, rfl⟩
    show some [Blk.arr _ 1 ((l.take l.length).map (fun _ => [pI (-99)]) ++ (l.drop l.length).map fun n => [pI n])] = _
    rw [List.take_length, List.drop_length, List.map_nil, List.append_nil]
theorem spoilLedger_con (g : Ledger) (h : g.Ok) : ConG P 51 (nbO g) [.agg [.pv (pI g.service), .own 0 g.entries.length, .own 1 g.known.length]] (.tup []) [.arr 50 5 (g.entries.map fun _ => spoiltE.enc), .arr 3 1 (g.known.map fun _ => [pI (-99)])] := by
  have hel := h.el
  have hm : (g.entries.map Entry.enc).length = g.entries.length := List.length_map ..
  refine ConG.of T_ok Try.func51 rfl (by kernel_rfl) (by kernel_rfl) (aw_of T_ok (by kernel_rfl) ?_)
  conv => whnf
  refine AW.loop (fun k : Nat => k ≤ g.entries.length) (fun k => [(1, .lf (.ptr 2 0)), (2, Go.Rx.I k)]) (fun k => [.arr 50 5 ((g.entries.take k).map (fun _ => spoiltE.enc) ++ (g.entries.drop k).map Entry.enc), .arr 3 1 (intRows g.known), .var [.pv (pI g.service), .own 0 g.entries.length, .own 1 g.known.length]]) (fun k => g.entries.length - k) [] ?_ ?_
  · exact ⟨0, Nat.zero_le _, ⟨rfl, rfl, trivial⟩, ⟨[], rfl⟩, rfl, rfl⟩
  rintro k hk
  have hrl : ((g.entries.take k).map (fun _ => spoiltE.enc) ++ (g.entries.drop k).map Entry.enc).length = g.entries.length := by simp; omega
  refine aw_of T_ok (by kernel_rfl) ?_
  conv => whnf
  refine ⟨hrl, ?_⟩
  conv => whnf
  split <;> rename_i hlt <;> conv => whnf
  · have hkl : k < g.entries.length := by have := of_decide_eq_true hlt; omega
    refine ⟨hrl, by omega, by omega, ?_⟩
    conv => whnf
    refine ⟨rfl, hrl, (g.entries[k]).enc, ?_, ?_⟩
    · show ((g.entries.take k).map (fun _ => spoiltE.enc) ++ (g.entries.drop k).map Entry.enc)[(k : Int).toNat]? = _
      rw [Int.toNat_natCast, List.getElem?_append_right (by simp; omega)]
      simp [Nat.min_eq_left hk, hkl]
    conv => whnf
    refine ⟨by decide, ?_⟩
    conv => whnf
    refine ⟨k + 1, ⟨by omega, by omega⟩, ⟨rfl, congrArg Go.Rx.I (wrapI (by omega)), trivial⟩, ⟨[], ?e⟩, rfl, rfl⟩
    case e =>
      rw [List.append_nil]
      exact congrArg (fun r => [Blk.arr _ 5 r, Blk.arr _ 1 (intRows g.known), Blk.var [.pv (pI g.service), .own 0 g.entries.length, .own 1 g.known.length]]) (set_next' (e := Entry.enc) (x := spoiltE.enc) hkl)
  · have hkl : k = g.entries.length := by have := of_decide_eq_false hlt; omega
    subst hkl
    refine ⟨[1], _, _, _, _, _, nodupB_ok rfl, rfl, rfl, wk_refl _, spoilNumbers_con g.known h.kl, ?_⟩
    conv => whnf
    refine ⟨[], [0, 1], [], [], rfl, ?_, rfl, trivial, rfl⟩
    show some [Blk.arr _ 5 ((g.entries.take g.entries.length).map (fun _ => spoiltE.enc) ++ (g.entries.drop g.entries.length).map Entry.enc), _] = _
    rw [List.take_length, List.drop_length, List.map_nil, List.append_nil]
    rfl
end Go.Proofs.Ytooiiihaijpbaaa.Rx
