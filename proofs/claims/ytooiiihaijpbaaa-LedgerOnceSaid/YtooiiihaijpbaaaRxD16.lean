/- A key happens at most once: the law. -/
import Derived.Test.YtooiiihaijpbaaaRxD15
set_option linter.unusedVariables false
set_option linter.unusedSimpArgs false
namespace Go.Rx
theorem deed2 {sv : Int} {a b : ByteArray} {op : ByteArray} (h : opsS sv = [a, b]) (ho : op = a ∨ op = b) : deedB sv op wW 1 = true := by
  rw [deedB, h, sw]
  rcases ho with rfl | rfl <;> simp
theorem on_0 {sv : Int} {a : ByteArray} (h : 1 ≤ sv ∧ sv ≤ 4) : On sv a 0 ⟨sv, [], []⟩ :=
  ⟨⟨by show (0 : Nat) * 56 ≤ _; omega, by show (0 : Nat) * 8 ≤ _; omega, fun e he => by cases he⟩, may_of h (by show 0 ≤ 400; omega) rfl rfl (by show 0 ≤ 200; omega), rfl, Nat.le_refl _, Nat.le_refl _, fun e he => by cases he⟩
theorem on_call {sv : Int} {a b : ByteArray} {i : Nat} {x : Ledger} (h : On sv a i x) (hops : opsS sv = [a, b]) (hi : i < 24) {k out : Int} (hk : 1 ≤ k ∧ k ≤ 20) (ho : 0 ≤ out ∧ out < 4) : Did x ⟨k, false, a, wW, 1⟩ false (callL x k a wW 1 out) := by
  have hel := h.el
  have hkl := h.kl
  have hkb : keyB k = true := key_of (by omega)
  have hd : deedB x.service a wW 1 = true := by rw [h.sv]; exact deed2 hops (.inl rfl)
  rw [callL, if_pos (ask_of h.may hkb hd (by omega))]
  exact do_did h.may hkb hd (by omega) (by omega)
theorem on_undo {sv : Int} {a b : ByteArray} {i : Nat} {x : Ledger} (h : On sv a i x) (hops : opsS sv = [a, b]) (hi : i < 24) {k of' out : Int} (hk : 1 ≤ k ∧ k ≤ 20) (hf : 1 ≤ of' ∧ of' ≤ 20) (ho : 0 ≤ out ∧ out < 4) :
    Did x ⟨k, true, b, wW, 1⟩ (!(doneB x.entries of')) (undoL x k of' b wW 1 out) := by
  have hel := h.el
  have hkl := h.kl
  have hkb : keyB k = true := key_of (by omega)
  have hd : deedB x.service b wW 1 = true := by rw [h.sv]; exact deed2 hops (.inr rfl)
  rw [undoL, if_pos ⟨ask_of h.may hkb hd (by omega), by omega, by omega⟩]
  exact do_did h.may hkb hd (by omega) (by omega)
end Go.Rx
namespace Go.Proofs.Ytooiiihaijpbaaa.Rx
open Go.Rx Go.Proofs Go.Proofs.Ytooiiihaijpbaaa.RxH

set_option maxHeartbeats 4000000 in
set_option maxRecDepth 100000 in
theorem ledgerOnce_con (p : LScript) (h : p.Ok) : Con P 4 [encScript p] (Bl true) [] := by
  obtain ⟨bh, ch⟩ := heavy9_con p h
  have hll := h.ll
  have hlm : (p.l.map LAct.enc).length = p.l.length := List.length_map ..
  have cw := within_con p.service 4 (by decide)
  have hwl := within_lt (i := p.service) (n := 4) (by decide)
  obtain ⟨sv, hsv⟩ : ∃ sv, sv = IntKind.i64.wrap (1 + within p.service 4) := ⟨_, rfl⟩
  have hsr : 1 ≤ sv ∧ sv ≤ 4 := by rw [hsv, wrapI (by omega)]; omega
  have cn := new_con sv
  have hnew : newP sv = (⟨sv, [], []⟩, 0) := by rw [newP, svB]; simp [hsr]
  rw [hnew] at cn
  have co := ops4_con sv
  obtain ⟨a, b, hops, hne⟩ : ∃ a b, opsS sv = [a, b] ∧ (a == b) = false := by
    rcases ops_two sv with h | h
    · exact h
    · have := opsS_two (n := sv) (by rw [svB]; simp [hsr]); rw [h] at this; cases this
  rw [hops] at co
  have hab : ¬ b = a := fun e => by rw [e] at hne; simp at hne
  have hokab : okS a ∧ okS b := by
    have h1 : ∀ z ∈ opsS sv, okS z := fun z hz => by
      obtain e | e | e | e : sv = 1 ∨ sv = 2 ∨ sv = 3 ∨ sv = 4 := by omega
      all_goals
        rw [e] at hz
        simp [opsS] at hz
        rcases hz with rfl | rfl <;> decide
    rw [hops] at h1
    exact ⟨h1 a (by simp), h1 b (by simp)⟩
  refine Con.of T_ok Try.func4 rfl (by kernel_rfl) (by kernel_rfl) (aw_ofC T_ok 1009 (by kernel_rfl) ?_)
  conv => whnf
  refine callS ch rfl ?_
  conv => whnf
  cases bh with
  | true =>
    conv => whnf
    exact finB ⟨rfl⟩
  | false =>
  conv => whnf
  refine callS cw rfl ?_
  conv => whnf
  rw [← hsv]
  refine callU cn (fun _ => rfl) ?_
  conv => whnf
  refine callS (num_con 0 (by decide)) rfl ?_
  conv => whnf
  refine callU co (fun _ => rfl) ?_
  conv => whnf
  refine AW.cut (fun q : Nat × Ledger => q.1 ≤ 24 ∧ On sv a q.1 q.2) (fun q => [(1, .lf (.ptr 0 0)), (3, .lf (.ptr 1 0))]) (fun q => [scriptV p, ledgerV q.2]) [] (aw_of T_ok (by kernel_rfl) ?_) ?_
  · conv => whnf
    refine AW.loop (fun q : Nat × Ledger => q.1 ≤ 24 ∧ On sv a q.1 q.2) (fun q => [(1, .lf (.ptr 0 0)), (3, .lf (.ptr 1 0)), (5, .lf (.pv (encStrs [a, b]))), (6, Go.Rx.I q.1)]) (fun q => [scriptV p, ledgerV q.2]) (fun q => 24 - q.1) [] ?_ ?_
    · exact ⟨(0, ⟨sv, [], []⟩), ⟨Nat.zero_le _, on_0 hsr⟩, ⟨rfl, rfl, rfl, rfl, trivial⟩, ⟨[], rfl⟩, rfl, rfl⟩
    rintro ⟨i, x⟩ ⟨hi, hon⟩
    simp only at hi hon
    refine aw_of T_ok (by kernel_rfl) ?_
    conv => whnf
    split <;> rename_i hlt <;> conv => whnf
    rotate_left
    · exact ⟨(i, x), ⟨hi, hon⟩, ⟨rfl, rfl, trivial⟩, ⟨_, rfl⟩, rfl, rfl⟩
    have hil : i < p.l.length := by have := of_decide_eq_true hlt; simp only at this; omega
    split <;> rename_i hlt2 <;> conv => whnf
    rotate_left
    · exact ⟨(i, x), ⟨hi, hon⟩, ⟨rfl, rfl, trivial⟩, ⟨_, rfl⟩, rfl, rfl⟩
    have hi24 : i < 24 := by have := of_decide_eq_true hlt2; simp only at this; omega
    have hrow2 : (p.l.map LAct.enc)[i]? = some (p.l[i]).enc := by simp [hil]
    generalize p.l[i] = act at hrow2
    refine ⟨by show (0 : Int) ≤ (i : Int); omega, act.enc, hrow2, ?_⟩
    conv => whnf
    have ck := within_con act.key 6 (by decide)
    have hkl := within_lt (i := act.key) (n := 6) (by decide)
    obtain ⟨key, hkey⟩ : ∃ key, key = IntKind.i64.wrap (1 + within act.key 6) := ⟨_, rfl⟩
    have hkr : 1 ≤ key ∧ key ≤ 6 := by rw [hkey, wrapI (by omega)]; omega
    refine callS ck rfl ?_
    conv => whnf
    rw [← hkey]
    refine callS (within_con act.kind 2 (by decide)) rfl ?_
    conv => whnf
    clear ck hkey
    have hkw : IntKind.i64.wrap (2 * key) = 2 * key := wrapI (by omega)
    have hkw1 : IntKind.i64.wrap (2 * key + 1) = 2 * key + 1 := wrapI (by omega)
    have hout := within_lt (i := act.out) (n := 4) (by decide)
    have cout := within_con act.out 4 (by decide)
    generalize within act.out 4 = out at hout cout
    split <;> rename_i hdo <;> conv => whnf
    · have did := on_call hon hops hi24 (k := 2 * key) (out := out) (by omega) hout
      have hon' : On sv a (i + 1) (callL x (2 * key) a wW 1 out).1 := hon.goes ⟨hokab.1, by show okS wW; decide⟩ ⟨rfl, rfl, fun e => (by cases e), fun _ => rfl⟩ hi24 did
      have cc := callP_con x hon.ok (2 * key) a wW 1 out
      have c24 := has9_con x hon.ok (2 * key)
      rw [hasP, if_pos hon.may] at c24
      generalize callL x (2 * key) a wW 1 out = d at did hon' cc
      obtain ⟨y, ans, er⟩ := d
      have her : er = 0 := did.err
      subst her
      have hkeep := did.keep (2 * key)
      have hhas := did.has
      simp only at hkeep hhas
      simp only at hon'
      have c24b := has9_con y hon'.ok (2 * key)
      rw [hasP, if_pos hon'.may] at c24b
      have c9 := ledger9_con y hon'.ok
      rw [hon'.may] at c9
      generalize x.known.contains (2 * key) = had at c24 hkeep
      generalize y.known.contains (2 * key) = has at c24b hkeep hhas
      clear did
      rw [← hkw] at cc c24 c24b
      refine AW.draw T_ok rfl (.one 0 (.one 1 (.one 2 (.one 3 (.one 4 (.one 5 (.one 6 (.one 7 (.two 8 (.two 9 (listPl [10, 11, 12, 13, 14, 15, 16, 17]) 14 (listPl [9, 10, 11, 12, 13, 15, 16, 17])) 14 (listPl [8, 9, 10, 11, 12, 13, 15, 16, 17])))))))))) (by kernel_rfl) (by kernel_rfl) ?_
      conv => whnf
      refine ⟨by decide, [pS a], rfl, ?_⟩
      conv => whnf
      refine ⟨?_, ?_⟩ <;> conv => whnf
      · refine callS cout rfl ?_
        conv => whnf
        refine ⟨?_, ?_⟩ <;> conv => whnf
        all_goals
          refine callU cc (fun _ => rfl) ?_
          conv => whnf
          refine callU c24 (fun _ => rfl) ?_
          conv => whnf
          refine callU c24b (fun _ => rfl) ?_
          conv => whnf
          refine callS (num_con 0 (by decide)) rfl ?_
          conv => whnf
          refine callS (num_con 0 (by decide)) rfl ?_
          conv => whnf
          refine callS (num_con 0 (by decide)) rfl ?_
          conv => whnf
          split <;> rename_i t1 <;> conv => whnf
          · split <;> rename_i t2 <;> conv => whnf
            · rw [hkeep t1] at t2; cases t2
            · split <;> rename_i t3 <;> conv => whnf
              · split <;> rename_i t4 <;> conv => whnf
                · rw [hhas (eq_of_beq t3)] at t4; cases t4
                · refine callS c9 rfl ?_
                  conv => whnf
                  exact ⟨(i + 1, y), ⟨⟨hi24, hon'⟩, by simp only; omega⟩, ⟨rfl, rfl, rfl, congrArg Go.Rx.I (wrapI (by simp only; omega)), trivial⟩, ⟨_, rfl⟩, rfl, rfl⟩
              · refine callS c9 rfl ?_
                conv => whnf
                exact ⟨(i + 1, y), ⟨⟨hi24, hon'⟩, by simp only; omega⟩, ⟨rfl, rfl, rfl, congrArg Go.Rx.I (wrapI (by simp only; omega)), trivial⟩, ⟨_, rfl⟩, rfl, rfl⟩
          · split <;> rename_i t3 <;> conv => whnf
            · split <;> rename_i t4 <;> conv => whnf
              · rw [hhas (eq_of_beq t3)] at t4; cases t4
              · refine callS c9 rfl ?_
                conv => whnf
                exact ⟨(i + 1, y), ⟨⟨hi24, hon'⟩, by simp only; omega⟩, ⟨rfl, rfl, rfl, congrArg Go.Rx.I (wrapI (by simp only; omega)), trivial⟩, ⟨_, rfl⟩, rfl, rfl⟩
            · refine callS c9 rfl ?_
              conv => whnf
              exact ⟨(i + 1, y), ⟨⟨hi24, hon'⟩, by simp only; omega⟩, ⟨rfl, rfl, rfl, congrArg Go.Rx.I (wrapI (by simp only; omega)), trivial⟩, ⟨_, rfl⟩, rfl, rfl⟩
      · refine callS cout rfl ?_
        conv => whnf
        refine callU cc (fun _ => rfl) ?_
        conv => whnf
        refine callU c24 (fun _ => rfl) ?_
        conv => whnf
        refine callU c24b (fun _ => rfl) ?_
        conv => whnf
        refine callS (num_con 0 (by decide)) rfl ?_
        conv => whnf
        refine callS (num_con 0 (by decide)) rfl ?_
        conv => whnf
        refine callS (num_con 0 (by decide)) rfl ?_
        conv => whnf
        split <;> rename_i t1 <;> conv => whnf
        · split <;> rename_i t2 <;> conv => whnf
          · rw [hkeep t1] at t2; cases t2
          · split <;> rename_i t3 <;> conv => whnf
            · split <;> rename_i t4 <;> conv => whnf
              · rw [hhas (eq_of_beq t3)] at t4; cases t4
              · refine callS c9 rfl ?_
                conv => whnf
                exact ⟨(i + 1, y), ⟨⟨hi24, hon'⟩, by simp only; omega⟩, ⟨rfl, rfl, rfl, congrArg Go.Rx.I (wrapI (by simp only; omega)), trivial⟩, ⟨_, rfl⟩, rfl, rfl⟩
            · refine callS c9 rfl ?_
              conv => whnf
              exact ⟨(i + 1, y), ⟨⟨hi24, hon'⟩, by simp only; omega⟩, ⟨rfl, rfl, rfl, congrArg Go.Rx.I (wrapI (by simp only; omega)), trivial⟩, ⟨_, rfl⟩, rfl, rfl⟩
        · split <;> rename_i t3 <;> conv => whnf
          · split <;> rename_i t4 <;> conv => whnf
            · rw [hhas (eq_of_beq t3)] at t4; cases t4
            · refine callS c9 rfl ?_
              conv => whnf
              exact ⟨(i + 1, y), ⟨⟨hi24, hon'⟩, by simp only; omega⟩, ⟨rfl, rfl, rfl, congrArg Go.Rx.I (wrapI (by simp only; omega)), trivial⟩, ⟨_, rfl⟩, rfl, rfl⟩
          · refine callS c9 rfl ?_
            conv => whnf
            exact ⟨(i + 1, y), ⟨⟨hi24, hon'⟩, by simp only; omega⟩, ⟨rfl, rfl, rfl, congrArg Go.Rx.I (wrapI (by simp only; omega)), trivial⟩, ⟨_, rfl⟩, rfl, rfl⟩
    · have did := on_undo hon hops hi24 (k := 2 * key + 1) (of' := 2 * key) (out := out) (by omega) (by omega) hout
      have hon' : On sv a (i + 1) (undoL x (2 * key + 1) (2 * key) b wW 1 out).1 := hon.goes ⟨hokab.2, by show okS wW; decide⟩ ⟨rfl, rfl, fun _ => hab, fun e => (by cases e)⟩ hi24 did
      have cc := undoP_con x hon.ok (2 * key + 1) (2 * key) b wW 1 out
      have c24 := has9_con x hon.ok (2 * key)
      rw [hasP, if_pos hon.may] at c24
      have c24b := has9_con x hon.ok (2 * key + 1)
      rw [hasP, if_pos hon.may] at c24b
      generalize undoL x (2 * key + 1) (2 * key) b wW 1 out = d at did hon' cc
      obtain ⟨y, ans, er⟩ := d
      have her : er = 0 := did.err
      subst her
      simp only at hon'
      have hdk : doneB x.entries (2 * key) = true → x.known.contains (2 * key) = true := done_known (ledger_parts hon.may).2.2.2.1
      have hen : (y.entries.length = x.entries.length) ∨ (y.entries.length = x.entries.length + 1 ∧ x.known.contains (2 * key) = true ∧ x.known.contains (2 * key + 1) = false) := by
        rcases did.en with e | ⟨e, h1, h2⟩
        · exact .inl (congrArg List.length e)
        · refine .inr ⟨(congrArg List.length e).trans (by simp), hdk (by simpa using h1), h2⟩
      have c9 := ledger9_con y hon'.ok
      rw [hon'.may] at c9
      have hlx : (x.entries.map Entry.enc).length = x.entries.length := List.length_map ..
      have hly : (y.entries.map Entry.enc).length = y.entries.length := List.length_map ..
      have hxl := hon.el
      generalize x.known.contains (2 * key) = had at c24 hen
      generalize x.known.contains (2 * key + 1) = known at c24b hen
      clear did hdk
      rw [← hkw] at c24
      rw [← hkw1, ← hkw] at c24b
      rw [← hkw1, ← hkw] at cc
      refine callU c24 (fun _ => rfl) ?_
      conv => whnf
      refine callU c24b (fun _ => rfl) ?_
      conv => whnf
      refine AW.draw T_ok rfl (.one 0 (.one 1 (.one 2 (.one 3 (.one 4 (.one 5 (.one 6 (.one 7 (.one 8 (.one 9 (.one 10 (.two 11 (.two 12 (listPl [13, 14, 15, 16, 17, 18, 19, 20]) 17 (listPl [12, 13, 14, 15, 16, 18, 19, 20])) 17 (listPl [11, 12, 13, 14, 15, 16, 18, 19, 20]))))))))))))) (by kernel_rfl) (by kernel_rfl) ?_
      conv => whnf
      refine ⟨by decide, [pS b], rfl, ?_⟩
      conv => whnf
      refine ⟨?_, ?_⟩ <;> conv => whnf
      · refine callS cout rfl ?_
        conv => whnf
        refine ⟨?_, ?_⟩ <;> conv => whnf
        all_goals
          refine callU cc (fun _ => rfl) ?_
          conv => whnf
          refine callS (num_con 0 (by decide)) rfl ?_
          conv => whnf
          refine callS (num_con 0 (by decide)) rfl ?_
          conv => whnf
          refine callS (num_con 0 (by decide)) rfl ?_
          conv => whnf
          split <;> rename_i t1 <;> conv => whnf
          · have e1 : ((y.entries.map Entry.enc).length : Int) < (x.entries.map Entry.enc).length := of_decide_eq_true t1
            exact absurd e1 (by omega)
          split <;> rename_i t2 <;> conv => whnf
          · have e2 : ((y.entries.map Entry.enc).length : Int) > IntKind.i64.wrap (((x.entries.map Entry.enc).length : Int) + 1) := of_decide_eq_true t2
            rw [wrapI (by omega)] at e2
            exact absurd e2 (by omega)
          split <;> rename_i t3 <;> conv => whnf
          · clear t1 t2
            rw [beq_iff_eq] at t3
            simp only [List.length_map] at t3
            rw [wrapI (n := (x.entries.length : Int) + 1) (by clear t3; omega)] at t3
            have hhk : had = true ∧ known = false := by
              rcases hen with e | ⟨_, h1, h2⟩
              · exact absurd t3 (by clear t3; omega)
              · exact ⟨h1, h2⟩
            have hh := hhk.1
            have hk := hhk.2
            clear t3 hhk
            split <;> rename_i t4 <;> conv => whnf
            · rw [hh] at t4; cases t4
            · split <;> rename_i t5 <;> conv => whnf
              · rw [hk] at t5; cases t5
              · refine callS c9 rfl ?_
                conv => whnf
                exact ⟨(i + 1, y), ⟨⟨hi24, hon'⟩, by simp only; omega⟩, ⟨rfl, rfl, rfl, congrArg Go.Rx.I (wrapI (by simp only; omega)), trivial⟩, ⟨_, rfl⟩, rfl, rfl⟩
          · clear t1 t2 t3
            refine callS c9 rfl ?_
            conv => whnf
            exact ⟨(i + 1, y), ⟨⟨hi24, hon'⟩, by simp only; omega⟩, ⟨rfl, rfl, rfl, congrArg Go.Rx.I (wrapI (by simp only; omega)), trivial⟩, ⟨_, rfl⟩, rfl, rfl⟩
      · refine callS cout rfl ?_
        conv => whnf
        refine callU cc (fun _ => rfl) ?_
        conv => whnf
        refine callS (num_con 0 (by decide)) rfl ?_
        conv => whnf
        refine callS (num_con 0 (by decide)) rfl ?_
        conv => whnf
        refine callS (num_con 0 (by decide)) rfl ?_
        conv => whnf
        split <;> rename_i t1 <;> conv => whnf
        · have e1 : ((y.entries.map Entry.enc).length : Int) < (x.entries.map Entry.enc).length := of_decide_eq_true t1
          exact absurd e1 (by omega)
        split <;> rename_i t2 <;> conv => whnf
        · have e2 : ((y.entries.map Entry.enc).length : Int) > IntKind.i64.wrap (((x.entries.map Entry.enc).length : Int) + 1) := of_decide_eq_true t2
          rw [wrapI (by omega)] at e2
          exact absurd e2 (by omega)
        split <;> rename_i t3 <;> conv => whnf
        · clear t1 t2
          rw [beq_iff_eq] at t3
          simp only [List.length_map] at t3
          rw [wrapI (n := (x.entries.length : Int) + 1) (by clear t3; omega)] at t3
          have hhk : had = true ∧ known = false := by
            rcases hen with e | ⟨_, h1, h2⟩
            · exact absurd t3 (by clear t3; omega)
            · exact ⟨h1, h2⟩
          have hh := hhk.1
          have hk := hhk.2
          clear t3 hhk
          split <;> rename_i t4 <;> conv => whnf
          · rw [hh] at t4; cases t4
          · split <;> rename_i t5 <;> conv => whnf
            · rw [hk] at t5; cases t5
            · refine callS c9 rfl ?_
              conv => whnf
              exact ⟨(i + 1, y), ⟨⟨hi24, hon'⟩, by simp only; omega⟩, ⟨rfl, rfl, rfl, congrArg Go.Rx.I (wrapI (by simp only; omega)), trivial⟩, ⟨_, rfl⟩, rfl, rfl⟩
        · clear t1 t2 t3
          refine callS c9 rfl ?_
          conv => whnf
          exact ⟨(i + 1, y), ⟨⟨hi24, hon'⟩, by simp only; omega⟩, ⟨rfl, rfl, rfl, congrArg Go.Rx.I (wrapI (by simp only; omega)), trivial⟩, ⟨_, rfl⟩, rfl, rfl⟩
  · rintro ⟨i, x⟩ ⟨hi, hon⟩
    simp only at hi hon
    have csum := sum_con x hon.ok wW
    rw [sumP, if_pos hon.may, sumL, sum_cnt (show ∀ e ∈ x.entries, Fine (op0 x.service) e by rw [hon.sv, op0, hops]; exact hon.fine)] at csum
    have hel := hon.el
    have hem : (x.entries.map Entry.enc).length = x.entries.length := List.length_map ..
    refine aw_of T_ok (by kernel_rfl) ?_
    conv => whnf
    refine callU csum (fun _ => rfl) ?_
    conv => whnf
    refine AW.loop (fun q : Nat × Int => q.1 ≤ x.entries.length ∧ cntGo (x.entries.drop q.1) q.2 = cntGo x.entries 0) (fun q => [(1, .lf (.ptr 0 0)), (3, .lf (.ptr 1 0)), (24, Go.Rx.I (cntGo x.entries 0)), (25, Go.Rx.I 0), (26, Go.Rx.I q.2), (27, Go.Rx.I q.1)]) (fun q => [scriptV p, ledgerV x]) (fun q => x.entries.length - q.1) [] ?_ ?_
    · exact ⟨(0, 0), ⟨Nat.zero_le _, rfl⟩, ⟨rfl, rfl, rfl, rfl, rfl, rfl, trivial⟩, ⟨[], rfl⟩, rfl, rfl⟩
    rintro ⟨k, n⟩ ⟨hk, hn⟩
    simp only at hk hn
    refine aw_of T_ok (by kernel_rfl) ?_
    conv => whnf
    split <;> rename_i hlt <;> conv => whnf
    · have hkl : k < x.entries.length := by have := of_decide_eq_true hlt; simp only at this; omega
      rw [cnt_go hkl] at hn
      have hrow : (x.entries.map Entry.enc)[k]? = some (x.entries[k]).enc := by simp [hkl]
      generalize x.entries[k] = e at hn hrow
      refine ⟨by show (0 : Int) ≤ (k : Int); omega, e.enc, hrow, ?_⟩
      conv => whnf
      split <;> rename_i t1 <;> conv => whnf
      · rw [if_pos (show e.back = true from t1)] at hn
        exact ⟨(k + 1, _), ⟨⟨hkl, hn⟩, by simp only; omega⟩, ⟨rfl, rfl, rfl, rfl, rfl, congrArg Go.Rx.I (wrapI (by simp only; omega)), trivial⟩, ⟨_, rfl⟩, rfl, rfl⟩
      · rw [if_neg (show ¬ e.back = true by rw [show e.back = false from t1]; decide)] at hn
        exact ⟨(k + 1, _), ⟨⟨hkl, hn⟩, by simp only; omega⟩, ⟨rfl, rfl, rfl, rfl, rfl, congrArg Go.Rx.I (wrapI (by simp only; omega)), trivial⟩, ⟨_, rfl⟩, rfl, rfl⟩
    · have hke : k = x.entries.length := by have := of_decide_eq_false hlt; simp only at this; omega
      rw [hke, List.drop_length, cntGo] at hn
      subst hn
      refine callS (num_con 0 (by decide)) rfl ?_
      conv => whnf
      split <;> rename_i t1 <;> conv => whnf
      · refine callS (short1_con ⟨#[]⟩ (by decide)) rfl ?_
        conv => whnf
        refine callS wakes_con rfl ?_
        conv => whnf
        exact finB ⟨rfl⟩
      · simp at t1
end Go.Proofs.Ytooiiihaijpbaaa.Rx
