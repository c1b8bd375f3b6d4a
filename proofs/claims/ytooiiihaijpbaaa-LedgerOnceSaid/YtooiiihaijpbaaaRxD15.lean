/- A ledger that is full: the law. -/
import Derived.Test.YtooiiihaijpbaaaRxD14
set_option linter.unusedVariables false
set_option linter.unusedSimpArgs false
namespace Go.Rx
def debit : ByteArray := ⟨#[100, 101, 98, 105, 116]⟩
def vV : ByteArray := ⟨#[118]⟩
structure Fu (i : Nat) (g : Ledger) : Prop where
  ok : g.Ok
  may : ledgerB g = true
  sv : g.service = 1
  el : g.entries.length + 1 = i
  kl : g.known.length + 1 = i
  has : ∀ k : Int, g.known.contains k = decide (1 ≤ k ∧ k < i)
theorem key_of {k : Int} (h : 1 ≤ k ∧ k ≤ 1073741824) : keyB k = true := by rw [keyB]; simp [h]
theorem deed1 {op who : ByteArray} {n : Int} (h1 : (opsS 1).any (op == ·) = true) (h2 : shortB who = true) (h : -1073741824 ≤ n ∧ n ≤ 1073741824) : deedB 1 op who n = true := by rw [deedB, h1, h2]; simp [h]
theorem dc : (opsS 1).any (credit == ·) = true := by kernel_rfl
theorem dd : (opsS 1).any (debit == ·) = true := by kernel_rfl
theorem sw : shortB wW = true := by kernel_rfl
theorem sv' : shortB vV = true := by kernel_rfl
theorem ask_of {g : Ledger} {k : Int} {op who : ByteArray} {n out : Int} (h1 : ledgerB g = true) (h2 : keyB k = true) (h3 : deedB g.service op who n = true) (h4 : 0 ≤ out ∧ out ≤ 3) : askB g k op who n out = true := by
  rw [askB, h1, h2, h3, outB]; simp [h4]
theorem fu_0 : Fu 1 gW0 := ⟨w0_ok, by kernel_rfl, rfl, rfl, rfl, fun k => by
  show false = _
  exact (decide_eq_false (by omega)).symm⟩
theorem fu_go {i : Nat} {g : Ledger} (h : Fu i g) (hi : i ≤ 200) (h1 : 1 ≤ i) : ∃ g', callL g i credit wW ((i : Int) % 7) (3 * ((i : Int) % 2)) = (g', 2 * ((i : Int) % 2), 0) ∧ Fu (i + 1) g' := by
  have he := h.el
  have hl := h.kl
  have h7 : 0 ≤ (i : Int) % 7 ∧ (i : Int) % 7 < 7 := by omega
  have hk : keyB (i : Int) = true := key_of (by omega)
  have hd : deedB g.service credit wW ((i : Int) % 7) = true := by rw [h.sv]; exact deed1 dc sw (by omega)
  have hc : g.known.contains (i : Int) = false := by rw [h.has]; exact decide_eq_false (by omega)
  have ho : 0 ≤ 3 * ((i : Int) % 2) ∧ 3 * ((i : Int) % 2) ≤ 3 := by omega
  rw [callL, if_pos (ask_of h.may hk hd ho)]
  have hx : doL g ⟨i, false, credit, wW, (i : Int) % 7⟩ false (3 * ((i : Int) % 2)) = (⟨g.service, g.entries ++ [⟨i, false, credit, wW, (i : Int) % 7⟩], insL g.known (posL g.known i) i⟩, ansL (3 * ((i : Int) % 2)), 0) := by
    rw [doL, if_neg (by show ¬ g.known.contains (i : Int) = true; rw [hc]; decide), if_neg (by omega), if_neg (by omega)]; rfl
  have did := do_did (g := g) (x := ⟨i, false, credit, wW, (i : Int) % 7⟩) (no := false) (out := 3 * ((i : Int) % 2)) h.may hk hd (by omega) (by omega)
  rw [hx] at did ⊢
  have hil := ins_len (x := (i : Int)) (posL_le g.known i)
  refine ⟨_, ?_, ⟨?_, did.may, h.sv, ?_, ?_, ?_⟩⟩
  · rw [ansL]
    by_cases h2 : (i : Int) % 2 = 0
    · rw [if_pos (by omega), h2]; rfl
    · rw [if_neg (by omega), show (i : Int) % 2 = 1 by omega]; rfl
  · refine ⟨?_, ?_, fun e hm => ?_⟩
    · show (g.entries ++ [_]).length * 56 ≤ _; rw [List.length_append, List.length_singleton]; omega
    · show (insL _ _ _).length * 8 ≤ _; omega
    · rw [List.mem_append, List.mem_singleton] at hm
      rcases hm with hm | rfl
      · exact h.ok.each e hm
      · exact ⟨by show okS credit; decide, by show okS wW; decide⟩
  · show (g.entries ++ [_]).length + 1 = _; rw [List.length_append, List.length_singleton]; omega
  · show (insL _ _ _).length + 1 = _; omega
  · intro k
    rw [ins_has, h.has]
    by_cases hki : k = i
    · subst hki
      rw [decide_eq_false (show ¬ (1 ≤ (i : Int) ∧ (i : Int) < i) by omega), decide_eq_true (show 1 ≤ (i : Int) ∧ (i : Int) < (i + 1 : Nat) by omega)]; simp
    · have : (k == (i : Int)) = false := by simpa using hki
      rw [this, Bool.or_false]
      exact decide_eq_decide.2 (by omega)
theorem fu_f {g : Ledger} (h : Fu 201 g) : callL g 201 credit wW 1 0 = (zL, 0, 7) := by
  have he := h.el
  have hc : g.known.contains (201 : Int) = false := by rw [h.has]; exact decide_eq_false (by omega)
  rw [callL, if_pos (ask_of h.may (key_of (by omega)) (by rw [h.sv]; exact deed1 dc sw (by omega)) (by omega)), doL, if_neg (by show ¬ g.known.contains (201 : Int) = true; rw [hc]; decide), if_neg (by omega), if_pos (by omega)]
theorem fu_g {g : Ledger} (h : Fu 201 g) : undoL g 202 1 debit wW 1 0 = (zL, 0, 7) := by
  have he := h.el
  have hc : g.known.contains (202 : Int) = false := by rw [h.has]; exact decide_eq_false (by omega)
  rw [undoL, if_pos ⟨ask_of h.may (key_of (by omega)) (by rw [h.sv]; exact deed1 dd sw (by omega)) (by omega), by omega, by omega⟩, doL, if_neg (by show ¬ g.known.contains (202 : Int) = true; rw [hc]; decide), if_neg (by omega), if_pos (by omega)]
theorem fu_y {g : Ledger} (h : Fu 201 g) : callL g 5 debit vV 9 0 = (g, 0, 0) := by
  have hc : g.known.contains (5 : Int) = true := by rw [h.has]; exact decide_eq_true (by omega)
  rw [callL, if_pos (ask_of h.may (key_of (by omega)) (by rw [h.sv]; exact deed1 dd sv' (by omega)) (by omega)), doL, if_pos (by show g.known.contains (5 : Int) = true; exact hc)]
  rfl
end Go.Rx
namespace Go.Proofs.Ytooiiihaijpbaaa.Rx
open Go.Rx Go.Proofs Go.Proofs.Ytooiiihaijpbaaa.RxH

set_option maxHeartbeats 2000000 in
set_option maxRecDepth 100000 in
theorem ledgerFull_con (p : LScript) (h : p.Ok) : Con P 3 [encScript p] (Bl true) [] := by
  have hll := h.ll
  have hlm : (p.l.map LAct.enc).length = p.l.length := List.length_map ..
  have c1 := new_con 1
  rw [wk1] at c1
  refine Con.of T_ok Try.func3 rfl (by kernel_rfl) (by kernel_rfl) (aw_of T_ok (by kernel_rfl) ?_)
  conv => whnf
  refine callU c1 (fun _ => rfl) ?_
  conv => whnf
  refine callS (num_con 0 (by decide)) rfl ?_
  conv => whnf
  refine AW.loop (fun q : Nat × Ledger => 1 ≤ q.1 ∧ q.1 ≤ 201 ∧ Fu q.1 q.2) (fun q => [(1, .lf (.ptr 0 0)), (3, .lf (.ptr 1 0)), (5, Go.Rx.I q.1)]) (fun q => [scriptV p, ledgerV q.2]) (fun q => 201 - q.1) [] ?_ ?_
  · exact ⟨(1, gW0), ⟨by decide, by decide, fu_0⟩, ⟨rfl, rfl, rfl, trivial⟩, ⟨[], rfl⟩, rfl, rfl⟩
  rintro ⟨i, g⟩ ⟨h1, h2, hf⟩
  simp only at h1 h2 hf
  refine aw_of T_ok (by kernel_rfl) ?_
  conv => whnf
  split <;> rename_i hlt <;> conv => whnf
  · have hi : i ≤ 200 := by have := of_decide_eq_true hlt; simp only at this; omega
    obtain ⟨g', hd, hf'⟩ := fu_go hf hi h1
    have cc := callP_con g hf.ok i credit wW ((i : Int) % 7) (3 * ((i : Int) % 2))
    rw [hd] at cc
    have hr7 : 0 ≤ (i : Int) % 7 ∧ (i : Int) % 7 < 7 := by omega
    have hr2 : 0 ≤ (i : Int) % 2 ∧ (i : Int) % 2 < 2 := by omega
    refine ⟨by show (0 : Int) ≤ (i : Int); omega, by decide, by show (i : Int) ≤ _; omega, ?_⟩
    conv => whnf
    refine ⟨by show (0 : Int) ≤ (i : Int); omega, by decide, by show (i : Int) ≤ _; omega, ?_⟩
    conv => whnf
    have cc2 : Con P 16 [encLedger g, Go.Rx.I i, Sx credit, Sx wW, Go.Rx.I ((i : Int) % 7), Go.Rx.I (IntKind.i64.wrap (3 * ((i : Int) % 2)))] (ledP (g', 2 * ((i : Int) % 2), 0)) [] := by rw [wrapI (n := 3 * ((i : Int) % 2)) (by omega)]; exact cc
    refine callU cc2 (fun _ => rfl) ?_
    conv => whnf
    refine callS (num_con 0 (by decide)) rfl ?_
    conv => whnf
    refine ⟨by show (0 : Int) ≤ (i : Int); omega, by decide, by show (i : Int) ≤ _; omega, ?_⟩
    conv => whnf
    split <;> rename_i t1 <;> conv => whnf
    · have t2 : (2 * ((i : Int) % 2) != IntKind.i64.wrap (2 * ((i : Int) % 2))) = true := t1
      rw [wrapI (by omega)] at t2; simp at t2
    exact ⟨(i + 1, g'), ⟨⟨by simp only; omega, by simp only; omega, hf'⟩, by simp only; omega⟩, ⟨rfl, rfl, congrArg Go.Rx.I (wrapI (by simp only; omega)), trivial⟩, ⟨_, rfl⟩, rfl, rfl⟩
  · have hi : i = 201 := by have := of_decide_eq_false hlt; simp only at this; omega
    subst hi
    have cf := callP_con g hf.ok 201 credit wW 1 0
    rw [fu_f hf] at cf
    have cg := undoP_con g hf.ok 202 1 debit wW 1 0
    rw [fu_g hf] at cg
    have cy := callP_con g hf.ok 5 debit vV 9 0
    rw [fu_y hf] at cy
    have ce := eqLedger_con g g hf.ok
    rw [decide_eq_true rfl] at ce
    have c9 := ledger9_con g hf.ok
    rw [hf.may] at c9
    refine callU cf (fun _ => rfl) ?_
    conv => whnf
    refine callU cg (fun _ => rfl) ?_
    conv => whnf
    refine callU cy (fun _ => rfl) ?_
    conv => whnf
    refine callS (num_con 7 (by decide)) rfl ?_
    conv => whnf
    refine callS (num_con 7 (by decide)) rfl ?_
    conv => whnf
    refine callS (num_con 0 (by decide)) rfl ?_
    conv => whnf
    refine callS ce rfl ?_
    conv => whnf
    refine callS c9 rfl ?_
    conv => whnf
    refine callS wakes_con rfl ?_
    conv => whnf
    exact finB ⟨rfl⟩
end Go.Proofs.Ytooiiihaijpbaaa.Rx
